import Derived.Test.YtpccgdkidnkppaaProg
import Derived.Test.YtpccgdkidnkppaaPk1FnExactRowNew
set_option linter.unusedVariables false
set_option linter.unusedSimpArgs false
namespace Go.Proofs.Ytpccgdkidnkppaa
open Go Go.RowKit

theorem PartsIs.of_get {B : Nat} {w : World} {A : Option Addr} : ∀ {ps : List Task} {k : Nat}, (∀ i (h : i < ps.length), ∃ b o x y z, A = some ⟨b, o, none⟩ ∧ b < B ∧ w.cell? ⟨b, o + (k + i) * 3, none⟩ = some x ∧ w.cell? ⟨b, o + (k + i) * 3 + 1, none⟩ = some y ∧
      w.cell? ⟨b, o + (k + i) * 3 + 2, none⟩ = some z ∧ TaskIs B w (.agg #[x, y, z]) ps[i]) → PartsIs B w A k ps := by
  intro ps
  induction ps with
  | nil => intro k _; rw [PartsIs]; trivial
  | cons t ts ih =>
    intro k h
    rw [PartsIs]
    refine ⟨?_, ih (fun i hi => ?_)⟩
    · obtain ⟨b, o, x, y, z, e, hb, h1, h2, h3, h4⟩ := h 0 (by simp)
      exact ⟨b, o, x, y, z, e, hb, by simpa using h1, by simpa using h2, by simpa using h3, h4⟩
    · obtain ⟨b, o, x, y, z, e, hb, h1, h2, h3, h4⟩ := h (i + 1) (by simpa using hi)
      rw [show k + (i + 1) = k + 1 + i from by omega] at h1 h2 h3
      exact ⟨b, o, x, y, z, e, hb, h1, h2, h3, h4⟩

/-- a task that is owned: all its rows of parts are in blocks of their own, from B on; d: more than its depth -/
def OwnT : Nat → World → Nat → Value → Task → List Nat → Prop
  | 0, _, _, _, _, _ => False
  | d + 1, w, B, v, T, L => ∃ A c, v = .agg #[.int .i64 T.kind, .int .i64 T.n, .slice A T.parts.length c] ∧ T.parts.length ≤ c ∧ c ≤ maxLen ∧ L.Nodup ∧
      ((T.parts = [] ∧ L = []) ∨ ∃ (b : Nat) (cs : Array Value) (Ls : List (List Nat)), A = some ⟨b, 0, none⟩ ∧ B ≤ b ∧ w.heap[b]? = some (.cells cs 48 (0, 0)) ∧ Ls.length = T.parts.length ∧ L = b :: Ls.flatten ∧
        ∀ i (h : i < T.parts.length), ∃ x y z, cs[i * 3]? = some x ∧ cs[i * 3 + 1]? = some y ∧ cs[i * 3 + 2]? = some z ∧ OwnT d w B (.agg #[x, y, z]) T.parts[i] (Ls.getD i []))

theorem getD_mem_flatten {Ls : List (List Nat)} {i b : Nat} (h : b ∈ Ls.getD i []) : b ∈ Ls.flatten := by
  by_cases hi : i < Ls.length
  · rw [getD_at _ hi] at h
    exact List.mem_flatten.2 ⟨_, List.getElem_mem hi, h⟩
  · rw [getD_out _ (by omega)] at h; cases h
theorem OwnT.keep {w w' : World} {B : Nat} : ∀ {d : Nat} {v : Value} {T : Task} {L : List Nat}, OwnT d w B v T L → (∀ b ∈ L, w'.heap[b]? = w.heap[b]?) → OwnT d w' B v T L := by
  intro d
  induction d with
  | zero => intro v T L h; exact h.elim
  | succ d ih =>
    intro v T L h hk
    obtain ⟨A, c, e, hc, hm, hn, h⟩ := h
    refine ⟨A, c, e, hc, hm, hn, h.imp id ?_⟩
    rintro ⟨b, cs, Ls, rfl, hB, hb, hl, rfl, hi⟩
    refine ⟨b, cs, Ls, rfl, hB, (hk b (by simp)).trans hb, hl, rfl, fun i h => ?_⟩
    obtain ⟨x, y, z, h1, h2, h3, h4⟩ := hi i h
    exact ⟨x, y, z, h1, h2, h3, ih h4 (fun b' hb' => hk b' (List.mem_cons_of_mem _ (getD_mem_flatten hb')))⟩
theorem OwnT.lt {w : World} {B : Nat} : ∀ {d : Nat} {v : Value} {T : Task} {L : List Nat}, OwnT d w B v T L → ∀ b ∈ L, B ≤ b ∧ b < w.heap.size := by
  intro d
  induction d with
  | zero => intro v T L h; exact h.elim
  | succ d ih =>
    intro v T L h b hb
    obtain ⟨A, c, e, hc, hm, hn, h⟩ := h
    rcases h with ⟨_, rfl⟩ | ⟨b', cs, Ls, rfl, hB, hb', hl, rfl, hi⟩
    · cases hb
    · rcases List.mem_cons.1 hb with rfl | hb
      · exact ⟨hB, block_lt hb'⟩
      · obtain ⟨l, hl', hbl⟩ := List.mem_flatten.1 hb
        obtain ⟨i, hi', rfl⟩ := List.getElem_of_mem hl'
        obtain ⟨x, y, z, _, _, _, h4⟩ := hi i (by omega)
        rw [getD_at _ hi'] at h4
        exact ih h4 b hbl
theorem OwnT.mono {w : World} {B B' : Nat} (hB : B' ≤ B) : ∀ {d : Nat} {v : Value} {T : Task} {L : List Nat}, OwnT d w B v T L → OwnT d w B' v T L := by
  intro d
  induction d with
  | zero => intro v T L h; exact h.elim
  | succ d ih =>
    intro v T L h
    obtain ⟨A, c, e, hc, hm, hn, h⟩ := h
    refine ⟨A, c, e, hc, hm, hn, h.imp id ?_⟩
    rintro ⟨b, cs, Ls, rfl, hB', hb, hl, rfl, hi⟩
    refine ⟨b, cs, Ls, rfl, by omega, hb, hl, rfl, fun i h => ?_⟩
    obtain ⟨x, y, z, h1, h2, h3, h4⟩ := hi i h
    exact ⟨x, y, z, h1, h2, h3, ih h4⟩
theorem OwnT.deeper {w : World} {B : Nat} : ∀ {d : Nat} {v : Value} {T : Task} {L : List Nat}, OwnT d w B v T L → OwnT (d + 1) w B v T L := by
  intro d
  induction d with
  | zero => intro v T L h; exact h.elim
  | succ d ih =>
    intro v T L h
    obtain ⟨A, c, e, hc, hm, hn, h⟩ := h
    refine ⟨A, c, e, hc, hm, hn, h.imp id ?_⟩
    rintro ⟨b, cs, Ls, rfl, hB', hb, hl, rfl, hi⟩
    refine ⟨b, cs, Ls, rfl, hB', hb, hl, rfl, fun i h => ?_⟩
    obtain ⟨x, y, z, h1, h2, h3, h4⟩ := hi i h
    exact ⟨x, y, z, h1, h2, h3, ih h4⟩
theorem OwnT.turn {w w' : World} {B g d : Nat} {v : Value} {T : Task} {L : List Nat} {F' : Nat → Prop} (h : OwnT d w B v T L) (t : Turn (· = g) F' w w') (hg : g < B) : OwnT d w' B v T L :=
  h.keep (fun b hb => t.block b (h.lt b hb).2 (fun e => by have := (h.lt b hb).1; omega))
theorem OwnT.alloc {w : World} {B d : Nat} {v : Value} {T : Task} {L : List Nat} (h : OwnT d w B v T L) (o : Obj) : OwnT d (w.alloc o) B v T L :=
  h.keep (fun b hb => heap_old (h.lt b hb).2)
/-- a task that is owned reads as one -/
theorem OwnT.reads {w : World} {B : Nat} : ∀ {d : Nat} {v : Value} {T : Task} {L : List Nat}, OwnT d w B v T L → TaskIs w.heap.size w v T := by
  intro d
  induction d with
  | zero => intro v T L h; exact h.elim
  | succ d ih =>
    intro v T L h
    obtain ⟨A, c, e, hc, hm, hn, h⟩ := h
    cases T with
    | mk k n ps =>
      simp only [Task.kind, Task.n, Task.parts] at *
      rw [TaskIs]
      refine ⟨A, c, e, hc, hm, ?_⟩
      rcases h with ⟨rfl, _⟩ | ⟨b, cs, Ls, rfl, hB, hb, hl, rfl, hi⟩
      · rw [PartsIs]; trivial
      · refine PartsIs.of_get (fun i h => ?_)
        obtain ⟨x, y, z, h1, h2, h3, h4⟩ := hi i h
        exact ⟨b, 0, x, y, z, rfl, block_lt hb, by rw [cellm hb]; simpa using h1, by rw [cellm hb]; simpa using h2, by rw [cellm hb]; simpa using h3, ih h4⟩

theorem okcode (R : Prop) : R → R := id

theorem RdAt.up {R : RdEnv} {p : Nat} {w w' : World} (h : RdAt R p w) (hw : Below w.heap.size w w') : RdAt R p w' :=
  ⟨(hw.block _ (block_lt h.blk)).trans h.blk, below_up' h.below h.size hw, Nat.le_trans h.size hw.size⟩
theorem RdAt.kept {R : RdEnv} {p : Nat} {w w' : World} (h : RdAt R p w) (hk : w'.heap[R.g]? = w.heap[R.g]?) (hb : Below R.B R.w0 w') (hs : R.B ≤ w'.heap.size) : RdAt R p w' := ⟨hk.trans h.blk, hb, hs⟩

set_option maxHeartbeats 1000000 in
theorem l6Open_calls (A : Option Addr) (c : Nat) (bytes : List Int) (B : Nat) (w0 w : World) (hb : Below B w0 w) (hB : B ≤ w.heap.size) (hx : RowAt (fun b : Int => Value.int .u8 b) B w0 A bytes) (hl : bytes.length ≤ c) (hc : c ≤ maxLen) (hby : ∀ b ∈ bytes, 0 ≤ b ∧ b ≤ 255) :
    Calls Try.prog 66 #[.slice A bytes.length c] w fun e w' => ∃ R : RdEnv, e = .returned (.pointer (some ⟨R.g, 0, none⟩)) ∧ R.Good ∧ R.B = B ∧ R.w0 = w0 ∧ w.heap.size ≤ R.g ∧ RdAt R 0 w' ∧ Below w.heap.size w w' := by
  have hcm := hc
  unfold maxLen at hcm
  by_cases h1 : bytes.length ≤ 2000
  · replace hx := Lib.hid hx
    replace hb := Lib.hid hb
    replace hby := Lib.hid hby
    go_enter Try.func66, Try.ntmps66
    go_wp2_with fail
    go_ret
    exact ⟨⟨A, c, bytes, B, w0, w.heap.size⟩, rfl, ⟨hx.out, h1, hl, hc, hby.out, hB⟩, rfl, rfl, Nat.le_refl _, ⟨heap_new rfl, below_al' hb.out _ hB, by simp; omega⟩, below_al (Below.refl _ _) _⟩
  · have e : (bytes.take 2000).length = 2000 := by simp; omega
    have hx' : RowAt (fun b : Int => Value.int .u8 b) B w0 A (bytes.take 2000) := fun i hi => by
      obtain ⟨b, o, e1, e2, e3⟩ := hx i (by simp at hi; omega)
      exact ⟨b, o, e1, e2, by simpa using e3⟩
    have hby' : ∀ b ∈ bytes.take 2000, 0 ≤ b ∧ b ≤ 255 := fun b hb => hby b (List.mem_of_mem_take hb)
    replace hx := Lib.hid hx
    replace hx' := Lib.hid hx'
    replace hb := Lib.hid hb
    replace hby := Lib.hid hby
    replace hby' := Lib.hid hby'
    replace e := Lib.hid e
    go_enter Try.func66, Try.ntmps66
    go_wp2_with fail
    go_ret
    refine ⟨⟨A, c, bytes.take 2000, B, w0, w.heap.size⟩, rfl, ⟨hx'.out, by simp only []; rw [e.out]; omega, by simp only []; rw [e.out]; omega, hc, hby'.out, hB⟩, rfl, rfl, Nat.le_refl _, ⟨?_, below_al' hb.out _ hB, by simp; omega⟩, below_al (Below.refl _ _) _⟩
    simp only []
    rw [e.out]
    exact heap_new rfl
end Go.Proofs.Ytpccgdkidnkppaa

set_option linter.unusedVariables false
set_option linter.unusedSimpArgs false
namespace Go.Proofs.Ytpccgdkidnkppaa
open Go Go.RowKit

/-! drawn tasks: G tells of a block that it is a row of parts, its rank and how many parts it has -/
def Rows := Nat → Option (Nat × Nat)
def TyV (G : Rows) (r : Nat) (v : Value) : Prop := ∃ (k n : Int) (A : Option Addr) (m c : Nat), v = .agg #[.int .i64 k, .int .i64 n, .slice A m c] ∧ m ≤ 3 ∧ m ≤ c ∧ c ≤ maxLen ∧ (k = 5 → 1 ≤ m) ∧
  (m = 0 ∨ ∃ b r', A = some ⟨b, 0, none⟩ ∧ G b = some (r', m) ∧ r' < r)
def TyH (g B : Nat) (G : Rows) (w : World) : Prop := ∀ b r m, G b = some (r, m) → B ≤ b ∧ b ≠ g ∧ ∃ cs, w.heap[b]? = some (.cells cs 48 (0, 0)) ∧
  ∀ i, i < m → ∃ x y z, cs[i * 3]? = some x ∧ cs[i * 3 + 1]? = some y ∧ cs[i * 3 + 2]? = some z ∧ TyV G r (.agg #[x, y, z])
structure Ext (G G' : Rows) (n : Nat) : Prop where
  old : ∀ b x, G b = some x → G' b = some x
  new : ∀ b x, G' b = some x → G b = some x ∨ n ≤ b
theorem Ext.refl (G : Rows) (n : Nat) : Ext G G n := ⟨fun _ _ h => h, fun _ _ h => .inl h⟩
theorem Ext.trans {G G' G2 : Rows} {n n' : Nat} (h : Ext G G' n) (k : Ext G' G2 n') (hn : n ≤ n') : Ext G G2 n :=
  ⟨fun b x hx => k.old b x (h.old b x hx), fun b x hx => (k.new b x hx).elim (h.new b x) (fun h => .inr (by omega))⟩
theorem TyV.ext {G G' : Rows} {n r r2 : Nat} {v : Value} (h : TyV G r v) (k : Ext G G' n) (hr : r ≤ r2) : TyV G' r2 v := by
  obtain ⟨kk, nn, A, m, c, e, h1, h2, h3, h5, h4⟩ := h
  refine ⟨kk, nn, A, m, c, e, h1, h2, h3, h5, h4.imp id ?_⟩
  rintro ⟨b, r', e, hb, hr'⟩
  exact ⟨b, r', e, k.old _ _ hb, by omega⟩
theorem TyH.turn {g B : Nat} {G : Rows} {w w' : World} (h : TyH g B G w) {F F' : Nat → Prop} (t : Turn F F' w w') (hF : ∀ b x, G b = some x → ¬ F b) : TyH g B G w' := by
  intro b r m hb
  obtain ⟨h1, h2, cs, h3, h4⟩ := h b r m hb
  exact ⟨h1, h2, cs, (t.block b (block_lt h3) (hF b _ hb)).trans h3, h4⟩
theorem TyH.turng {g B : Nat} {G : Rows} {w w' : World} (h : TyH g B G w) {F' : Nat → Prop} (t : Turn (· = g) F' w w') : TyH g B G w' :=
  h.turn t (fun b x hb => (h b x.1 x.2 hb).2.1)
theorem TyH.alloc {g B : Nat} {G : Rows} {w : World} (h : TyH g B G w) (o : Obj) : TyH g B G (w.alloc o) :=
  h.turn ((Turn.refl (fun _ => False) w).alloc o) (fun _ _ _ h => h)
theorem TyH.drew {g B : Nat} {G : Rows} {w : World} (h : TyH g B G w) : TyH g B G w.drew := h
theorem TyH.set {g B : Nat} {G : Rows} {w : World} (h : TyH g B G w) {b o : Nat} (v : Value) (hb : ∀ x, G b ≠ some x) : TyH g B G (w.setCell ⟨b, o, none⟩ v) :=
  h.turn (setCell_turn (F := (· = b)) rfl v) (fun b' x hx e => by cases e; exact hb _ hx)
def withRow (G : Rows) (b r m : Nat) : Rows := fun i => if i = b then some (r, m) else G i
theorem TyH.lt {g B : Nat} {G : Rows} {w : World} (h : TyH g B G w) {b : Nat} {x : Nat × Nat} (hb : G b = some x) : b < w.heap.size := by
  obtain ⟨_, _, _, h3, _⟩ := h b x.1 x.2 hb
  exact block_lt h3
theorem Ext.row (G : Rows) {g B : Nat} {w : World} (h : TyH g B G w) (r m : Nat) : Ext G (withRow G w.heap.size r m) w.heap.size := by
  refine ⟨fun b x hb => ?_, fun b x hb => ?_⟩
  · have := h.lt hb
    unfold withRow
    rw [if_neg (by omega)]; exact hb
  · unfold withRow at hb
    split at hb
    · right; omega
    · exact .inl hb
theorem TyH.row {g B : Nat} {G : Rows} {w : World} (h : TyH g B G w) (r m : Nat) (cs : Array Value) (hB : B ≤ w.heap.size) (hg : g < w.heap.size)
    (hi : ∀ i, i < m → ∃ x y z, cs[i * 3]? = some x ∧ cs[i * 3 + 1]? = some y ∧ cs[i * 3 + 2]? = some z ∧ TyV G r (.agg #[x, y, z])) :
    TyH g B (withRow G w.heap.size r m) (w.alloc (.cells cs 48 (0, 0))) := by
  have he := Ext.row G h r m
  intro b r' m' hb
  unfold withRow at hb
  split at hb
  · rename_i e
    cases hb; subst e
    refine ⟨hB, by omega, cs, heap_new rfl, fun i h' => ?_⟩
    obtain ⟨x, y, z, h1, h2, h3, h4⟩ := hi i h'
    exact ⟨x, y, z, h1, h2, h3, h4.ext he (Nat.le_refl _)⟩
  · obtain ⟨h1, h2, cs', h3, h4⟩ := h b r' m' hb
    refine ⟨h1, h2, cs', (heap_old (block_lt h3)).trans h3, fun i h' => ?_⟩
    obtain ⟨x, y, z, k1, k2, k3, k4⟩ := h4 i h'
    exact ⟨x, y, z, k1, k2, k3, k4.ext he (Nat.le_refl _)⟩
theorem tyv_leaf (G : Rows) (r : Nat) (k n : Int) (hk : k ≠ 5) : TyV G r (.agg #[.int .i64 k, .int .i64 n, .slice none 0 0]) :=
  ⟨k, n, none, 0, 0, rfl, by omega, by omega, by simp [maxLen], fun e => (hk e).elim, .inl rfl⟩
theorem tyv_row (G : Rows) (b r m : Nat) (k n : Int) (hm : m ≤ 3) (h1 : 1 ≤ m) : TyV (withRow G b r m) (r + 1) (.agg #[.int .i64 k, .int .i64 n, .slice (some ⟨b, 0, none⟩) m m]) :=
  ⟨k, n, _, m, m, rfl, hm, by omega, by simp [maxLen]; omega, fun _ => h1, .inr ⟨b, r, rfl, by simp [withRow], by omega⟩⟩

def cost : Nat → Nat
  | 0 => 3
  | d + 1 => 3 * cost d + 3
/-- what a draw of a task brings -/
def DrawT (R : RdEnv) (G : Rows) (p c r : Nat) (w : World) (e : Ending) (w' : World) : Prop :=
  ∃ p' G' v, e = .returned v ∧ TyV G' r v ∧ p ≤ p' ∧ p' ≤ p + c ∧ RdAt R p' w' ∧ Turn (· = R.g) (· = R.g) w w' ∧ Ext G G' w.heap.size ∧ TyH R.g R.B G' w'

set_option maxHeartbeats 1000000 in
theorem l91Key_calls (R : RdEnv) (hR : R.Good) (p : Nat) (hp : p + 2 ≤ 1000000) (below : Int) (w : World) (h : RdAt R p w) :
    Calls Try.prog 161 #[.pointer (some ⟨R.g, 0, none⟩), .int .i64 below] w fun e w' => ∃ p' v, e = .returned (.int .i64 v) ∧ p ≤ p' ∧ p' ≤ p + 2 ∧ RdAt R p' w' ∧ Turn (· = R.g) (· = R.g) w w' := by
  have h1 := pick_calls R hR p (by omega) 25 w h
  replace h1 := Lib.hid h1
  replace h := Lib.hid h
  go_enter Try.func161, Try.ntmps161
  go_wp2_with fail
  refine h1.out.mono ?_
  rintro e w1 ⟨k, rfl, hk0, hk1, hr, ht⟩
  have h2 := pick_calls R hR (p + 1) (by omega) below w1 hr
  replace hr := Lib.hid hr
  replace ht := Lib.hid ht
  replace h2 := Lib.hid h2
  by_cases hk : k = 0
  · subst hk
    go_wp2_with fail
    go_ret
    exact ⟨p + 1, 9, rfl, by omega, by omega, hr.out, ht.out⟩
  · have e1 : (k == 0) = false := by simp [hk]
    go_wp2_with fail
    refine h2.out.mono ?_
    rintro e w2 ⟨v, rfl, _, _, hr2, ht2⟩
    replace hr2 := Lib.hid hr2
    replace ht2 := Lib.hid ht2
    go_wp2_with fail
    go_ret
    exact ⟨p + 1 + 1, v, rfl, by omega, by omega, hr2.out, ht.out.trans ht2.out⟩
theorem ret_task {fn : Func} {t : Nat} {tmps : Array Value} {Q : Ending → World → Prop} {W : World} {m : Nat} {a b c : Value} (hr : fn.results = #[.cell t 48])
    (ht : tmps.getD t undef = .pointer (some ⟨m, 0, none⟩)) (hW : W.heap[m]? = some (.cells #[a, b, c] 48 (0, 0))) (K : Q (.returned (.agg #[a, b, c])) W) : bodyPost Try.prog fn Q .ret ⟨tmps, []⟩ W := by
  have y0 : W.cell? ⟨m, 0, none⟩ = some a := cellm hW 0
  have y1 : W.cell? ⟨m, 1, none⟩ = some b := cellm hW 1
  have y2 : W.cell? ⟨m, 2, none⟩ = some c := cellm hW 2
  refine bodyPost_ret (v := .agg #[a, b, c]) ?_ rfl K
  have ht' : tmps[t]?.getD undef = .pointer (some ⟨m, 0, none⟩) := by simpa using ht
  simp [results, hr, ht', go_sem, y0, y1, y2]

/-- behind w, whose next block is the result's: what a draw has brought so far -/
structure DSt (R : RdEnv) (G : Rows) (w : World) (G' : Rows) (p' : Nat) (w' : World) : Prop where
  rd : RdAt R p' w'
  turn : Turn (· = R.g) (· = R.g) w w'
  ext : Ext G G' (w.heap.size + 1)
  ty : TyH R.g R.B G' w'
  res : w'.heap[w.heap.size]? = some (.cells #[.int .i64 0, .int .i64 0, .slice none 0 0] 48 (0, 0))
  old : ∀ x, G w.heap.size ≠ some x
  glt : R.g < w.heap.size
  bw : R.B ≤ w.heap.size
section
variable {R : RdEnv} {G G1 : Rows} {w w1 : World} {p p1 : Nat}
theorem DSt.start (h : RdAt R p w) (hG : TyH R.g R.B G w) : DSt R G w G p (w.alloc (.cells #[.int .i64 0, .int .i64 0, .slice none 0 0] 48 (0, 0))) :=
  ⟨h.up (below_al (Below.refl _ _) _), (Turn.refl _ _).alloc _, Ext.refl _ _, hG.alloc _, heap_new rfl, fun x hx => by have := hG.lt hx; omega, block_lt h.blk, h.size⟩
theorem DSt.lt (h : DSt R G w G1 p1 w1) : w.heap.size < w1.heap.size := block_lt h.res
theorem DSt.draw (h : DSt R G w G1 p1 w1) {G2 : Rows} {p2 : Nat} {w2 : World} (rd : RdAt R p2 w2) (t : Turn (· = R.g) (· = R.g) w1 w2) (he : Ext G1 G2 w1.heap.size) (ty : TyH R.g R.B G2 w2) : DSt R G w G2 p2 w2 :=
  ⟨rd, h.turn.trans t, h.ext.trans he (by have := h.lt; omega), ty, (t.block _ h.lt (by intro e; have := h.glt; omega)).trans h.res, h.old, h.glt, h.bw⟩
theorem DSt.step (h : DSt R G w G1 p1 w1) {p2 : Nat} {w2 : World} (rd : RdAt R p2 w2) (t : Turn (· = R.g) (· = R.g) w1 w2) : DSt R G w G1 p2 w2 :=
  h.draw rd t (Ext.refl _ _) (h.ty.turng t)
theorem DSt.row (h : DSt R G w G1 p1 w1) (r m : Nat) (cs : Array Value) (hi : ∀ i, i < m → ∃ x y z, cs[i * 3]? = some x ∧ cs[i * 3 + 1]? = some y ∧ cs[i * 3 + 2]? = some z ∧ TyV G1 r (.agg #[x, y, z])) :
    DSt R G w (withRow G1 w1.heap.size r m) p1 (w1.alloc (.cells cs 48 (0, 0))) :=
  h.draw (h.rd.up (below_al (Below.refl _ _) _)) ((Turn.refl _ _).alloc _) (Ext.row G1 h.ty r m) (h.ty.row r m cs h.rd.size (block_lt h.rd.blk) hi)
theorem DSt.done (h : DSt R G w G1 p1 w1) {p c r : Nat} {x y z : Value} {fn : Func} {t : Nat} {tmps : Array Value} (hr : fn.results = #[.cell t 48])
    (ht : tmps.getD t undef = .pointer (some ⟨w.heap.size, 0, none⟩)) (hv : TyV G1 r (.agg #[x, y, z])) (hp : p ≤ p1 ∧ p1 ≤ p + c) :
    bodyPost Try.prog fn (DrawT R G p c r w) .ret ⟨tmps, []⟩ (((w1.setCell ⟨w.heap.size, 0, none⟩ x).setCell ⟨w.heap.size, 1, none⟩ y).setCell ⟨w.heap.size, 2, none⟩ z) := by
  have hne : ∀ q, G1 w.heap.size ≠ some q := fun q hq => (h.ext.new _ _ hq).elim (h.old q) (fun hn => by omega)
  have hgl := h.glt
  have t3 : Turn (· = w.heap.size) (· = w.heap.size) w1 (((w1.setCell ⟨w.heap.size, 0, none⟩ x).setCell ⟨w.heap.size, 1, none⟩ y).setCell ⟨w.heap.size, 2, none⟩ z) :=
    ((setCell_turn (F := (· = w.heap.size)) rfl x).trans (setCell_turn (F := (· = w.heap.size)) rfl y)).trans (setCell_turn (F := (· = w.heap.size)) rfl z)
  have hb : Below w.heap.size w1 (((w1.setCell ⟨w.heap.size, 0, none⟩ x).setCell ⟨w.heap.size, 1, none⟩ y).setCell ⟨w.heap.size, 2, none⟩ z) := t3.below (Nat.le_of_lt h.lt) (fun i e => by cases e; exact Nat.le_refl _)
  refine ret_task hr ht ((setCell_block (setCell_block (setCell_block h.res 0 x) 1 y) 2 z).trans rfl) ⟨p1, G1, _, rfl, hv, hp.1, hp.2, ?_, ?_, ?_, ?_⟩
  · exact h.rd.kept (hb.block _ hgl) (h.rd.below.trans (hb.mono h.bw)) (Nat.le_trans h.rd.size hb.size)
  · exact ⟨hb.os.trans h.turn.os, hb.tape.trans h.turn.tape, hb.output.trans h.turn.output, Nat.le_trans h.turn.size hb.size, fun i hi hF => (hb.block i hi).trans (h.turn.block i hi hF), h.turn.fresh⟩
  · exact ⟨h.ext.old, fun b q hq => (h.ext.new b q hq).imp id (fun hn => by omega)⟩
  · exact h.ty.turn t3 (fun b q hq e => by cases e; exact hne _ hq)
theorem DSt.done' {ob : Obj} (h : DSt R G w G1 p1 (w1.alloc ob)) (hl : w.heap.size < w1.heap.size) {p c r : Nat} {x y z : Value} {fn : Func} {t : Nat} {tmps : Array Value} (hr : fn.results = #[.cell t 48])
    (ht : tmps.getD t undef = .pointer (some ⟨w.heap.size, 0, none⟩)) (hv : TyV G1 r (.agg #[x, y, z])) (hp : p ≤ p1 ∧ p1 ≤ p + c) :
    bodyPost Try.prog fn (DrawT R G p c r w) .ret ⟨tmps, []⟩ ((((w1.setCell ⟨w.heap.size, 0, none⟩ x).setCell ⟨w.heap.size, 1, none⟩ y).setCell ⟨w.heap.size, 2, none⟩ z).alloc ob) := by
  have := h.done hr ht hv hp
  rwa [World.setCell_alloc_past _ _ _ _ hl, World.setCell_alloc_past _ _ _ _ (by simpa using hl), World.setCell_alloc_past _ _ _ _ (by simpa using hl)] at this
theorem row1 {G : Rows} {r : Nat} {a b c : Value} (h : TyV G r (.agg #[a, b, c])) : ∀ i, i < 1 → ∃ x y z, (#[a, b, c] : Array Value)[i * 3]? = some x ∧ (#[a, b, c] : Array Value)[i * 3 + 1]? = some y ∧ (#[a, b, c] : Array Value)[i * 3 + 2]? = some z ∧ TyV G r (.agg #[x, y, z]) := by
  intro i hi
  obtain rfl : i = 0 := by omega
  exact ⟨_, _, _, rfl, rfl, rfl, h⟩
theorem row2 {G : Rows} {r : Nat} {a b c a2 b2 c2 : Value} (h : TyV G r (.agg #[a, b, c])) (h2 : TyV G r (.agg #[a2, b2, c2])) : ∀ i, i < 2 → ∃ x y z, (#[a, b, c, a2, b2, c2] : Array Value)[i * 3]? = some x ∧ (#[a, b, c, a2, b2, c2] : Array Value)[i * 3 + 1]? = some y ∧ (#[a, b, c, a2, b2, c2] : Array Value)[i * 3 + 2]? = some z ∧ TyV G r (.agg #[x, y, z]) := by
  intro i hi
  rcases (show i = 0 ∨ i = 1 by omega) with rfl | rfl
  · exact ⟨_, _, _, rfl, rfl, rfl, h⟩
  · exact ⟨_, _, _, rfl, rfl, rfl, h2⟩
theorem row3 {G : Rows} {r : Nat} {a b c a2 b2 c2 a3 b3 c3 : Value} (h : TyV G r (.agg #[a, b, c])) (h2 : TyV G r (.agg #[a2, b2, c2])) (h3 : TyV G r (.agg #[a3, b3, c3])) : ∀ i, i < 3 → ∃ x y z, (#[a, b, c, a2, b2, c2, a3, b3, c3] : Array Value)[i * 3]? = some x ∧ (#[a, b, c, a2, b2, c2, a3, b3, c3] : Array Value)[i * 3 + 1]? = some y ∧ (#[a, b, c, a2, b2, c2, a3, b3, c3] : Array Value)[i * 3 + 2]? = some z ∧ TyV G r (.agg #[x, y, z]) := by
  intro i hi
  rcases (show i = 0 ∨ i = 1 ∨ i = 2 by omega) with rfl | rfl | rfl
  · exact ⟨_, _, _, rfl, rfl, rfl, h⟩
  · exact ⟨_, _, _, rfl, rfl, rfl, h2⟩
  · exact ⟨_, _, _, rfl, rfl, rfl, h3⟩
/-- the facts that the store of the result asks for -/
theorem DSt.cells (h : DSt R G w G1 p1 w1) : w1.cell? ⟨w.heap.size, 0, none⟩ = some (.int .i64 0) ∧ w1.cell? ⟨w.heap.size, 1, none⟩ = some (.int .i64 0) ∧ w1.cell? ⟨w.heap.size, 2, none⟩ = some (.slice none 0 0) ∧
    w1.frozen? ⟨w.heap.size, 0, none⟩ = false ∧ w1.frozen? ⟨w.heap.size, 1, none⟩ = false ∧ w1.frozen? ⟨w.heap.size, 2, none⟩ = false :=
  ⟨cellm h.res 0, cellm h.res 1, cellm h.res 2, frozenm h.res 0, frozenm h.res 1, frozenm h.res 2⟩
end
theorem ret_sheet {fn : Func} {t : Nat} {tmps : Array Value} {Q : Ending → World → Prop} {W : World} {m : Nat} {a b : Value} (hr : fn.results = #[.cell t 31])
    (ht : tmps.getD t undef = .pointer (some ⟨m, 0, none⟩)) (hW : W.heap[m]? = some (.cells #[a, b] 31 (0, 0))) (K : Q (.returned (.agg #[a, b])) W) : bodyPost Try.prog fn Q .ret ⟨tmps, []⟩ W := by
  have y0 : W.cell? ⟨m, 0, none⟩ = some a := cellm hW 0
  have y1 : W.cell? ⟨m, 1, none⟩ = some b := cellm hW 1
  refine bodyPost_ret (v := .agg #[a, b]) ?_ rfl K
  have ht' : tmps[t]?.getD undef = .pointer (some ⟨m, 0, none⟩) := by simpa using ht
  simp [results, hr, ht', go_sem, y0, y1]
end Go.Proofs.Ytpccgdkidnkppaa

set_option linter.unusedVariables false
set_option linter.unusedSimpArgs false
namespace Go.Proofs.Ytpccgdkidnkppaa
open Go Go.RowKit

theorem isValue_calls (n : Int) (w : World) : Calls Try.prog 153 #[.int .i64 n] w fun e w' => e = .returned (.bool (decide (0 ≤ n ∧ n ≤ 96))) ∧ w = w' := by
  by_cases h : 0 ≤ n <;>
  · go_enter Try.func153, Try.ntmps153
    go_wp2
    go_ret
    refine ⟨?_, rfl⟩
    by_cases h2 : n ≤ 96 <;> simp [h, h2] <;> omega

theorem isKey_calls (n : Int) (w : World) : Calls Try.prog 165 #[.int .i64 n] w fun e w' => e = .returned (.bool (decide (0 ≤ n ∧ n ≤ 9))) ∧ w = w' := by
  by_cases h : 0 ≤ n <;>
  · go_enter Try.func165, Try.ntmps165
    go_wp2
    go_ret
    refine ⟨?_, rfl⟩
    by_cases h2 : n ≤ 9 <;> simp [h, h2] <;> omega

/-- a value of a row, 0 beside it -/
def atK (xs : List Int) (k : Int) : Int := if k < 0 then 0 else xs.getD k.toNat 0

theorem at_calls (A : Option Addr) (c : Nat) (k : Int) (xs : List Int) (B : Nat) (w0 w : World) (hb : Below B w0 w) (hB : B ≤ w.heap.size) (hm : xs.length ≤ maxLen) (hx : IntsAt B w0 A xs) :
    Calls Try.prog 127 #[.slice A xs.length c, .int .i64 k] w fun e w' => e = .returned (.int .i64 (atK xs k)) ∧ w = w' := by
  unfold maxLen at hm
  by_cases h : k < 0
  · go_enter Try.func127, Try.ntmps127
    go_wp2
    go_ret
    exact ⟨by simp [atK, h], rfl⟩
  · by_cases h2 : k < xs.length
    · obtain ⟨i, rfl⟩ := Int.eq_ofNat_of_zero_le (by omega : 0 ≤ k)
      obtain ⟨b, o, rfl, hlt, hc⟩ := hx.at hb hB i (by omega)
      have hr : atK xs i = xs[i]'(by omega) := by unfold atK; rw [if_neg h]; exact getD_at _ _
      replace hr := Lib.hid hr
      clear hx hb
      have hi : i < xs.length := by omega
      go_enter Try.func127, Try.ntmps127
      go_wp2
      go_ret
      exact ⟨by rw [hr.out]; rfl, rfl⟩
    · have hr : atK xs k = 0 := by unfold atK; rw [if_neg h]; exact getD_out _ (by omega)
      replace hr := Lib.hid hr
      go_enter Try.func127, Try.ntmps127
      go_wp2
      go_ret
      exact ⟨by rw [hr.out]; rfl, rfl⟩

theorem has_calls (A A2 : Option Addr) (n c n2 c2 : Nat) (k : Int) (w : World) :
    Calls Try.prog 106 #[.agg #[.slice A n c, .slice A2 n2 c2], .int .i64 k] w fun e w' => e = .returned (.bool (decide (0 ≤ k ∧ k < n))) ∧ Below w.heap.size w w' := by
  by_cases h : 0 ≤ k <;>
  · go_enter Try.func106, Try.ntmps106
    go_wp2
    go_ret
    refine ⟨?_, below_al (Below.refl _ _) _⟩
    by_cases h2 : k < n <;> simp [h, h2] <;> omega

/-- whether a key is made -/
def mkK (made : List Bool) (k : Int) : Bool := if k < 0 then false else made.getD k.toNat false

theorem makes_calls (A A2 : Option Addr) (c n2 c2 : Nat) (k : Int) (made : List Bool) (B : Nat) (w0 w : World) (hb : Below B w0 w) (hB : B ≤ w.heap.size) (hm : made.length ≤ maxLen) (hx : BoolsAt B w0 A made) :
    Calls Try.prog 61 #[.agg #[.slice A made.length c, .slice A2 n2 c2], .int .i64 k] w fun e w' => e = .returned (.bool (mkK made k)) ∧ Below w.heap.size w w' := by
  unfold maxLen at hm
  by_cases h : 0 ≤ k ∧ k < made.length
  · have hd : decide (0 ≤ k ∧ k < made.length) = true := by simp [h]
    obtain ⟨h1, h2⟩ := h
    obtain ⟨i, rfl⟩ := Int.eq_ofNat_of_zero_le h1
    obtain ⟨b, o, rfl, hlt, hc⟩ := hx i (by omega)
    have hc' := (hb.cell hlt).trans hc
    have hr : mkK made i = made[i]'(by omega) := by unfold mkK; rw [if_neg (by omega)]; exact getD_at _ _
    replace hr := Lib.hid hr
    have hlt' : b < w.heap.size := by omega
    have hi : i < made.length := by omega
    clear hx hb hc
    replace hd := Lib.hid hd
    go_enter Try.func61, Try.ntmps61
    go_wp2_with fail
    refine (has_calls _ _ _ _ _ _ _ _).mono ?_
    rintro e w1 ⟨rfl, h3⟩
    rw [hd.out]
    have h4 := bcell h3
    simp at h4
    have x0 : w1.cell? ⟨w.heap.size, 0, none⟩ = some (.slice (some ⟨b, o, none⟩) made.length c) := (h4 _ _ (by omega)).trans (by simp)
    have x1 : w1.cell? ⟨b, o + i, none⟩ = some (.bool made[i]) := (h4 _ _ (by omega)).trans ((cell_al hlt').trans hc')
    clear h4
    replace h3 := Lib.hid h3
    go_wp2_with fail
    go_ret
    exact ⟨by rw [hr.out]; rfl, below_from h3.out⟩
  · have hd : decide (0 ≤ k ∧ k < made.length) = false := by simp [h]
    have hr : mkK made k = false := by
      unfold mkK
      by_cases h0 : k < 0
      · simp [h0]
      · rw [if_neg h0]; exact getD_out _ (by omega)
    replace hd := Lib.hid hd
    replace hr := Lib.hid hr
    go_enter Try.func61, Try.ntmps61
    go_wp2_with fail
    refine (has_calls _ _ _ _ _ _ _ _).mono ?_
    rintro e w1 ⟨rfl, h3⟩
    rw [hd.out]
    go_wp2_with fail
    go_ret
    exact ⟨by rw [hr.out]; rfl, below_from h3⟩

theorem index_calls (A : Option Addr) (c : Nat) (v : Int) (xs : List Int) (B : Nat) (w0 w : World) (hb : Below B w0 w) (hB : B ≤ w.heap.size) (hm : xs.length ≤ maxLen) (hx : IntsAt B w0 A xs) :
    Calls Try.prog 113 #[.slice A xs.length c, .int .i64 v] w fun e w' => e = .returned (.int .i64 (idx (fun x => v == x) xs)) ∧ w = w' := by
  unfold maxLen at hm
  replace hx := Lib.hid hx
  replace hb := Lib.hid hb
  go_enter Try.func113, Try.ntmps113
  go_wp2
  go_loop [5, 8] (fun _ i => ∃ k : Nat, k ≤ xs.length ∧ i = .int .i64 k ∧ Hid (∀ j (hj : j < xs.length), j < k → (v == xs[j]) = false)) (fun _ i => xs.length - (intOf i).toNat)
  case atStart => exact ⟨0, Nat.zero_le _, rfl, Lib.hid (fun j _ h => by omega)⟩
  case round =>
    obtain ⟨k, hk, rfl, hno⟩ := hrel
    by_cases hlt : k < xs.length
    · obtain ⟨b, o, rfl, hbl, hc⟩ := hx.out.at hb.out hB k hlt
      by_cases hv : v = xs[k]
      · have hv' : (v == xs[k]) = true := by simp [hv]
        have hr : idx (fun x => v == x) xs = k := idx_found hlt (fun j hj => hno.out j _ hj) hv'
        replace hr := Lib.hid hr
        replace hv := Lib.hid hv
        go_wp2
        go_ret
        exact ⟨by rw [hr.out]; rfl, rfl⟩
      · have hv' : (v == xs[k]) = false := by simp [hv]
        replace hv := Lib.hid hv
        go_wp2
        go_round
        case rel => exact ⟨k + 1, by omega, by go_num, Lib.hid (fun j hj h => if e : j = k then by subst e; exact hv' else hno.out j hj (by omega))⟩
        case measure => simp [intOf]; omega
    · have hr : idx (fun x => v == x) xs = -1 := idx_none (fun j hj => hno.out j hj (by omega))
      replace hr := Lib.hid hr
      go_wp2
      go_ret
      exact ⟨by rw [hr.out]; rfl, rfl⟩

theorem indexFunc_calls (p : Int → Bool) (g : Nat) (first cap : Array Value) (hg : Enters Try.prog g) (A : Option Addr) (c : Nat) (xs : List Int) (B : Nat) (w0 w : World) (hb : Below B w0 w) (hB : B ≤ w.heap.size) (hm : xs.length ≤ maxLen)
    (hx : IntsAt B w0 A xs)
    (hf : ∀ x w', x ∈ xs → Below w.heap.size w w' → Calls Try.prog g (first ++ #[.int .i64 x] ++ cap) w' (fun e w'' => e = .returned (.bool (p x)) ∧ Below w'.heap.size w' w'')) :
    Calls Try.prog 148 #[.slice A xs.length c, .func (.func g) first cap] w fun e w' => e = .returned (.int .i64 (idx p xs)) ∧ Below w.heap.size w w' := by
  unfold maxLen at hm
  replace hx := Lib.hid hx
  replace hb := Lib.hid hb
  replace hf := Lib.hid hf
  go_enter Try.func148, Try.ntmps148
  go_wp2
  go_loopw [5, 8] (fun _ i wr => ∃ k : Nat, k ≤ xs.length ∧ i = .int .i64 k ∧ Hid (Below w.heap.size w wr) ∧ Hid (∀ j (hj : j < xs.length), j < k → p xs[j] = false)) (fun _ i _ => xs.length - (intOf i).toNat)
  case atStart => exact ⟨0, Nat.zero_le _, rfl, Lib.hid (Below.refl _ _), Lib.hid (fun j _ h => by omega)⟩
  case round =>
    obtain ⟨k, hk, rfl, hw, hno⟩ := hrel
    by_cases hlt : k < xs.length
    · obtain ⟨b, o, rfl, hbl, hc⟩ := hx.out.at (below_up' hb.out hB hw.out) (Nat.le_trans hB hw.out.size) k hlt
      go_wp2_with ((with_reducible refine wpList_call_value (by rfl) (.tmp 11) _ _ (by rfl) g first cap (by with_unfolding_all rfl) hg ?_); refine (hf.out xs[k] _ (List.getElem_mem _) hw.out).mono ?_; rintro e w' ⟨rfl, h3⟩; replace h3 := Lib.hid h3; refine ⟨_, rfl, ?_⟩)
      · have hp : p xs[k] = true := by assumption
        have hr : idx p xs = k := idx_found hlt (fun j hj => hno.out j _ hj) hp
        go_ret
        exact ⟨by rw [hr]; rfl, below_up hw.out h3.out⟩
      · have hp : p xs[k] = false := by assumption
        go_roundw
        case rel => exact ⟨k + 1, by omega, by go_num, Lib.hid (below_up hw.out h3.out), Lib.hid (fun j hj h => if e : j = k then by subst e; exact hp else hno.out j hj (by omega))⟩
        case measure => simp [intOf]; omega
    · have hr : idx p xs = -1 := idx_none (fun j hj => hno.out j hj (by omega))
      replace hr := Lib.hid hr
      go_wp2
      go_ret
      exact ⟨by rw [hr.out]; rfl, hw.out⟩

theorem containsFunc_calls (p : Int → Bool) (g : Nat) (first cap : Array Value) (hg : Enters Try.prog g) (A : Option Addr) (c : Nat) (xs : List Int) (B : Nat) (w0 w : World) (hb : Below B w0 w) (hB : B ≤ w.heap.size) (hm : xs.length ≤ maxLen)
    (hx : IntsAt B w0 A xs)
    (hf : ∀ x w', x ∈ xs → Below w.heap.size w w' → Calls Try.prog g (first ++ #[.int .i64 x] ++ cap) w' (fun e w'' => e = .returned (.bool (p x)) ∧ Below w'.heap.size w' w'')) :
    Calls Try.prog 119 #[.slice A xs.length c, .func (.func g) first cap] w fun e w' => e = .returned (.bool (xs.any p)) ∧ Below w.heap.size w w' := by
  have h := indexFunc_calls p g first cap hg A c xs B w0 w hb hB hm hx hf
  replace h := Lib.hid h
  clear hx hb hf
  go_enter Try.func119, Try.ntmps119
  go_wp2_with fail
  refine h.out.mono ?_
  rintro e w1 ⟨rfl, h3⟩
  replace h3 := Lib.hid h3
  have hr := idx_any p xs
  generalize idx p xs = n at *
  replace hr := Lib.hid hr
  go_wp2_with fail
  go_ret
  exact ⟨by rw [← hr.out]; rfl, h3.out⟩

/-- whether all are values -/
def vals (xs : List Int) : Bool := !xs.any fun n => !decide (0 ≤ n ∧ n ≤ 96)

theorem areValues1_calls (n : Int) (w : World) : Calls Try.prog 152 #[.int .i64 n] w fun e w' => e = .returned (.bool (!decide (0 ≤ n ∧ n ≤ 96))) ∧ Below w.heap.size w w' := by
  go_enter Try.func152, Try.ntmps152
  go_wp2_with fail
  refine (isValue_calls _ _).mono ?_
  rintro e w1 ⟨rfl, rfl⟩
  generalize hd : decide (0 ≤ n ∧ n ≤ 96) = d
  replace hd := Lib.hid hd
  go_wp2_with fail
  go_ret
  exact ⟨by rw [hd.out]; rfl, Below.refl _ _⟩

theorem areValues_calls (A : Option Addr) (c : Nat) (xs : List Int) (B : Nat) (w0 w : World) (hb : Below B w0 w) (hB : B ≤ w.heap.size) (hm : xs.length ≤ maxLen) (hx : IntsAt B w0 A xs) :
    Calls Try.prog 126 #[.slice A xs.length c] w fun e w' => e = .returned (.bool (vals xs)) ∧ Below w.heap.size w w' := by
  have h := containsFunc_calls (fun n => !decide (0 ≤ n ∧ n ≤ 96)) 152 #[] #[] (enters_of Try.func152 (by kernel_rfl) rfl) A c xs B w0 w hb hB hm hx (fun x w' _ _ => by
    simpa using areValues1_calls x w')
  replace h := Lib.hid h
  clear hx hb
  go_enter Try.func126, Try.ntmps126
  go_wp2_with fail
  refine h.out.mono ?_
  rintro e w1 ⟨rfl, h3⟩
  replace h3 := Lib.hid h3
  have hr : vals xs = !xs.any (fun n => !decide (0 ≤ n ∧ n ≤ 96)) := rfl
  generalize xs.any (fun n => !decide (0 ≤ n ∧ n ≤ 96)) = n at *
  replace hr := Lib.hid hr
  go_wp2_with fail
  go_ret
  exact ⟨by rw [hr.out]; rfl, h3.out⟩

def valsOk (xs : List Int) : Bool := decide (xs.length ≤ 10) && vals xs

theorem valuesOk_calls (A : Option Addr) (c : Nat) (xs : List Int) (B : Nat) (w0 w : World) (hb : Below B w0 w) (hB : B ≤ w.heap.size) (hm : xs.length ≤ maxLen) (hx : IntsAt B w0 A xs) :
    Calls Try.prog 131 #[.slice A xs.length c] w fun e w' => e = .returned (.bool (valsOk xs)) ∧ Below w.heap.size w w' := by
  have h := areValues_calls A c xs B w0 w hb hB hm hx
  replace h := Lib.hid h
  clear hx hb
  by_cases hl : xs.length ≤ 10
  · have hr : valsOk xs = vals xs := by simp [valsOk, hl]
    generalize vals xs = b at *
    replace hr := Lib.hid hr
    go_enter Try.func131, Try.ntmps131
    go_wp2_with fail
    refine h.out.mono ?_
    rintro e w1 ⟨rfl, h3⟩
    replace h3 := Lib.hid h3
    go_wp2_with fail
    go_ret
    exact ⟨by rw [hr.out]; rfl, h3.out⟩
  · have hr : valsOk xs = false := by simp [valsOk, hl]
    replace hr := Lib.hid hr
    go_enter Try.func131, Try.ntmps131
    go_wp2_with fail
    go_ret
    exact ⟨by rw [hr.out]; rfl, Below.refl _ _⟩

/-- whether inputs are ones of a sheet with n keys -/
def takesOk (n : Nat) (xs : List Int) : Bool := decide (xs.length = n) && vals xs

theorem takes_calls (A A2 Ai : Option Addr) (n c n2 c2 ci : Nat) (xs : List Int) (B : Nat) (w0 w : World) (hb : Below B w0 w) (hB : B ≤ w.heap.size) (hm : xs.length ≤ maxLen) (hx : IntsAt B w0 Ai xs) :
    Calls Try.prog 81 #[.agg #[.slice A n c, .slice A2 n2 c2], .slice Ai xs.length ci] w fun e w' => e = .returned (.bool (takesOk n xs)) ∧ Below w.heap.size w w' := by
  have h := fun w (hb : Below B w0 w) (hB : B ≤ w.heap.size) => areValues_calls Ai ci xs B w0 w hb hB hm hx
  replace h := Lib.hid h
  clear hx
  replace hb := Lib.hid hb
  by_cases hl : xs.length = n
  · subst hl
    have hr : takesOk xs.length xs = vals xs := by simp [takesOk]
    generalize vals xs = b at *
    replace hr := Lib.hid hr
    go_enter Try.func81, Try.ntmps81
    go_wp2_with fail
    refine (h.out _ (hb.out.alloc hB _) (by simp; omega)).mono ?_
    rintro e w1 ⟨rfl, h3⟩
    replace h3 := Lib.hid h3
    go_wp2_with fail
    go_ret
    exact ⟨by rw [hr.out]; rfl, below_from h3.out⟩
  · have hr : takesOk n xs = false := by simp [takesOk, hl]
    replace hr := Lib.hid hr
    have hl' : ((xs.length : Int) == (n : Int)) = false := by simp; omega
    replace hl := Lib.hid hl
    go_enter Try.func81, Try.ntmps81
    go_wp2_with fail
    go_ret
    exact ⟨by rw [hr.out]; rfl, below_al (Below.refl _ _) _⟩
theorem vals_iff {xs : List Int} : vals xs = true ↔ ∀ x ∈ xs, 0 ≤ x ∧ x ≤ 96 := by
  unfold vals
  rw [Bool.not_eq_true', List.any_eq_false]
  simp
end Go.Proofs.Ytpccgdkidnkppaa

set_option linter.unusedVariables false
set_option linter.unusedSimpArgs false
namespace Go.Proofs.Ytpccgdkidnkppaa
open Go Go.RowKit

set_option maxHeartbeats 1000000 in
theorem fits_calls (k n : Int) (A : Option Addr) (len c : Nat) (w : World) :
    Calls Try.prog 162 #[.agg #[.int .i64 k, .int .i64 n, .slice A len c]] w fun e w' => e = .returned (.bool (fitsN k n len)) ∧ Below w.heap.size w w' := by
  by_cases k0 : k = 0
  · subst k0
    by_cases hv : 0 ≤ n ∧ n ≤ 96
    · have hd : decide (0 ≤ n ∧ n ≤ 96) = true := by simp [hv]
      replace hd := Lib.hid hd
      by_cases hl : len = 0
      · have hr : fitsN 0 n len = true := by simp [fitsN, hv, hl]
        replace hr := Lib.hid hr
        subst hl
        go_enter Try.func162, Try.ntmps162
        go_wp2_with fail
        refine (isValue_calls _ _).mono ?_
        rintro e w1 ⟨rfl, rfl⟩
        rw [hd.out]
        go_wp2_with fail
        go_ret
        exact ⟨by rw [hr.out]; rfl, below_al (Below.refl _ _) _⟩
      · have hr : fitsN 0 n len = false := by simp [fitsN, hl]
        replace hr := Lib.hid hr
        have hl' : ((len : Int) == 0) = false := by simp; omega
        replace hl := Lib.hid hl
        go_enter Try.func162, Try.ntmps162
        go_wp2_with fail
        refine (isValue_calls _ _).mono ?_
        rintro e w1 ⟨rfl, rfl⟩
        rw [hd.out]
        go_wp2_with fail
        go_ret
        exact ⟨by rw [hr.out]; rfl, below_al (Below.refl _ _) _⟩
    · have hr : fitsN 0 n len = false := by simp [fitsN]; omega
      have hd : decide (0 ≤ n ∧ n ≤ 96) = false := by simp [hv]
      replace hd := Lib.hid hd
      replace hr := Lib.hid hr
      clear hv
      go_enter Try.func162, Try.ntmps162
      go_wp2_with fail
      refine (isValue_calls _ _).mono ?_
      rintro e w1 ⟨rfl, rfl⟩
      rw [hd.out]
      go_wp2_with fail
      go_ret
      exact ⟨by rw [hr.out]; rfl, below_al (Below.refl _ _) _⟩
  by_cases k1 : k = 1
  · subst k1
    by_cases hv : 0 ≤ n ∧ n ≤ 9
    · have hd : decide (0 ≤ n ∧ n ≤ 9) = true := by simp [hv]
      replace hd := Lib.hid hd
      by_cases hl : len = 0
      · have hr : fitsN 1 n len = true := by simp [fitsN, hv, hl]
        replace hr := Lib.hid hr
        subst hl
        go_enter Try.func162, Try.ntmps162
        go_wp2_with fail
        refine (isKey_calls _ _).mono ?_
        rintro e w1 ⟨rfl, rfl⟩
        rw [hd.out]
        go_wp2_with fail
        go_ret
        exact ⟨by rw [hr.out]; rfl, below_al (Below.refl _ _) _⟩
      · have hr : fitsN 1 n len = false := by simp [fitsN, hl]
        replace hr := Lib.hid hr
        have hl' : ((len : Int) == 0) = false := by simp; omega
        replace hl := Lib.hid hl
        go_enter Try.func162, Try.ntmps162
        go_wp2_with fail
        refine (isKey_calls _ _).mono ?_
        rintro e w1 ⟨rfl, rfl⟩
        rw [hd.out]
        go_wp2_with fail
        go_ret
        exact ⟨by rw [hr.out]; rfl, below_al (Below.refl _ _) _⟩
    · have hr : fitsN 1 n len = false := by simp [fitsN]; omega
      have hd : decide (0 ≤ n ∧ n ≤ 9) = false := by simp [hv]
      replace hd := Lib.hid hd
      replace hr := Lib.hid hr
      clear hv
      go_enter Try.func162, Try.ntmps162
      go_wp2_with fail
      refine (isKey_calls _ _).mono ?_
      rintro e w1 ⟨rfl, rfl⟩
      rw [hd.out]
      go_wp2_with fail
      go_ret
      exact ⟨by rw [hr.out]; rfl, below_al (Below.refl _ _) _⟩
  by_cases k5 : k = 5
  · subst k5
    by_cases hv : 0 ≤ n ∧ n ≤ 9
    · have hd : decide (0 ≤ n ∧ n ≤ 9) = true := by simp [hv]
      replace hd := Lib.hid hd
      by_cases hl : len = 1
      · have hr : fitsN 5 n len = true := by simp [fitsN, hv, hl]
        replace hr := Lib.hid hr
        subst hl
        go_enter Try.func162, Try.ntmps162
        go_wp2_with fail
        refine (isKey_calls _ _).mono ?_
        rintro e w1 ⟨rfl, rfl⟩
        rw [hd.out]
        go_wp2_with fail
        go_ret
        exact ⟨by rw [hr.out]; rfl, below_al (Below.refl _ _) _⟩
      · have hr : fitsN 5 n len = false := by simp [fitsN, hl]
        replace hr := Lib.hid hr
        have hl' : ((len : Int) == 1) = false := by simp; omega
        replace hl := Lib.hid hl
        go_enter Try.func162, Try.ntmps162
        go_wp2_with fail
        refine (isKey_calls _ _).mono ?_
        rintro e w1 ⟨rfl, rfl⟩
        rw [hd.out]
        go_wp2_with fail
        go_ret
        exact ⟨by rw [hr.out]; rfl, below_al (Below.refl _ _) _⟩
    · have hr : fitsN 5 n len = false := by simp [fitsN]; omega
      have hd : decide (0 ≤ n ∧ n ≤ 9) = false := by simp [hv]
      replace hd := Lib.hid hd
      replace hr := Lib.hid hr
      clear hv
      go_enter Try.func162, Try.ntmps162
      go_wp2_with fail
      refine (isKey_calls _ _).mono ?_
      rintro e w1 ⟨rfl, rfl⟩
      rw [hd.out]
      go_wp2_with fail
      go_ret
      exact ⟨by rw [hr.out]; rfl, below_al (Below.refl _ _) _⟩
  by_cases k2 : k = 2
  · subst k2
    by_cases hv : n = 0
    · subst hv
      by_cases hl : len = 2
      · have hr : fitsN 2 0 len = true := by simp [fitsN, hl]
        replace hr := Lib.hid hr
        subst hl
        go_enter Try.func162, Try.ntmps162
        go_wp2_with fail
        go_ret
        exact ⟨by rw [hr.out]; rfl, below_al (Below.refl _ _) _⟩
      · have hr : fitsN 2 0 len = false := by simp [fitsN, hl]
        replace hr := Lib.hid hr
        have hl' : ((len : Int) == 2) = false := by simp; omega
        replace hl := Lib.hid hl
        go_enter Try.func162, Try.ntmps162
        go_wp2_with fail
        go_ret
        exact ⟨by rw [hr.out]; rfl, below_al (Below.refl _ _) _⟩
    · have hr : fitsN 2 n len = false := by simp [fitsN, hv]
      have hd : (n == 0) = false := by simp [hv]
      replace hr := Lib.hid hr
      replace hv := Lib.hid hv
      go_enter Try.func162, Try.ntmps162
      go_wp2_with fail
      go_ret
      exact ⟨by rw [hr.out]; rfl, below_al (Below.refl _ _) _⟩
  by_cases k3 : k = 3
  · subst k3
    by_cases hv : n = 0
    · subst hv
      by_cases hl : len = 2
      · have hr : fitsN 3 0 len = true := by simp [fitsN, hl]
        replace hr := Lib.hid hr
        subst hl
        go_enter Try.func162, Try.ntmps162
        go_wp2_with fail
        go_ret
        exact ⟨by rw [hr.out]; rfl, below_al (Below.refl _ _) _⟩
      · have hr : fitsN 3 0 len = false := by simp [fitsN, hl]
        replace hr := Lib.hid hr
        have hl' : ((len : Int) == 2) = false := by simp; omega
        replace hl := Lib.hid hl
        go_enter Try.func162, Try.ntmps162
        go_wp2_with fail
        go_ret
        exact ⟨by rw [hr.out]; rfl, below_al (Below.refl _ _) _⟩
    · have hr : fitsN 3 n len = false := by simp [fitsN, hv]
      have hd : (n == 0) = false := by simp [hv]
      replace hr := Lib.hid hr
      replace hv := Lib.hid hv
      go_enter Try.func162, Try.ntmps162
      go_wp2_with fail
      go_ret
      exact ⟨by rw [hr.out]; rfl, below_al (Below.refl _ _) _⟩
  by_cases k4 : k = 4
  · subst k4
    by_cases hv : n = 0
    · subst hv
      by_cases hl : len = 3
      · have hr : fitsN 4 0 len = true := by simp [fitsN, hl]
        replace hr := Lib.hid hr
        subst hl
        go_enter Try.func162, Try.ntmps162
        go_wp2_with fail
        go_ret
        exact ⟨by rw [hr.out]; rfl, below_al (Below.refl _ _) _⟩
      · have hr : fitsN 4 0 len = false := by simp [fitsN, hl]
        replace hr := Lib.hid hr
        have hl' : ((len : Int) == 3) = false := by simp; omega
        replace hl := Lib.hid hl
        go_enter Try.func162, Try.ntmps162
        go_wp2_with fail
        go_ret
        exact ⟨by rw [hr.out]; rfl, below_al (Below.refl _ _) _⟩
    · have hr : fitsN 4 n len = false := by simp [fitsN, hv]
      have hd : (n == 0) = false := by simp [hv]
      replace hr := Lib.hid hr
      replace hv := Lib.hid hv
      go_enter Try.func162, Try.ntmps162
      go_wp2_with fail
      go_ret
      exact ⟨by rw [hr.out]; rfl, below_al (Below.refl _ _) _⟩
  have hr : fitsN k n len = false := by simp [fitsN, *]
  have e0 : (k == 0) = false := by simp [k0]
  have e1 : (k == 1) = false := by simp [k1]
  have e2 : (k == 2) = false := by simp [k2]
  have e3 : (k == 3) = false := by simp [k3]
  have e4 : (k == 4) = false := by simp [k4]
  have e5 : (k == 5) = false := by simp [k5]
  replace k0 := Lib.hid k0
  replace k1 := Lib.hid k1
  replace k2 := Lib.hid k2
  replace k3 := Lib.hid k3
  replace k4 := Lib.hid k4
  replace k5 := Lib.hid k5
  replace hr := Lib.hid hr
  go_enter Try.func162, Try.ntmps162
  go_wp2_with fail
  go_ret
  exact ⟨by rw [hr.out]; rfl, below_al (Below.refl _ _) _⟩


set_option maxHeartbeats 1000000 in
theorem countTo_calls : ∀ (t : Task) (room : Int) (A : Option Addr) (c B : Nat) (w0 w : World), room ≤ 15 → -1000 ≤ room → Below B w0 w → B ≤ w.heap.size → t.parts.length ≤ c → c ≤ maxLen → PartsIs B w0 A 0 t.parts →
    Calls Try.prog 163 #[.agg #[.int .i64 t.kind, .int .i64 t.n, .slice A t.parts.length c], .int .i64 room] w fun e w' => e = .returned (.int .i64 (cntTo t room)) ∧ Below w.heap.size w w' := by
  refine Task.ind ?_
  intro k n ps ih room A c B w0 w hr1 hr2 hb hB hc hm hp
  simp only [Task.kind, Task.n, Task.parts] at hc hp ⊢
  unfold maxLen at hm
  replace ih := Lib.hid ih
  replace hb := Lib.hid hb
  replace hp := Lib.hid hp
  by_cases h1 : room < 1
  · have hr : cntTo (.mk k n ps) room = 16 := by rw [cntTo, if_pos (.inl h1)]
    replace hr := Lib.hid hr
    go_enter Try.func163, Try.ntmps163
    go_wp2_with fail
    go_ret
    exact ⟨by rw [hr.out]; rfl, below_al (Below.refl _ _) _⟩
  by_cases h2 : fitsN k n ps.length = false
  · have hr : cntTo (.mk k n ps) room = 16 := by rw [cntTo, if_pos (.inr h2)]
    replace hr := Lib.hid hr
    replace h2 := Lib.hid h2
    go_enter Try.func163, Try.ntmps163
    go_wp2_with fail
    refine (fits_calls _ _ _ _ _ _).mono ?_
    rintro e w1 ⟨rfl, h3⟩
    rw [h2.out]
    go_wp2_with fail
    go_ret
    exact ⟨by rw [hr.out]; rfl, below_from h3⟩
  have hr : cntTo (.mk k n ps) room = cntToL ps room 1 := by rw [cntTo, if_neg (by simp [h1, h2])]
  replace hr := Lib.hid hr
  simp only [Bool.not_eq_false] at h2
  replace h2 := Lib.hid h2
  go_enter Try.func163, Try.ntmps163
  go_wp2_with fail
  refine (fits_calls _ _ _ _ _ _).mono ?_
  rintro e w1 ⟨rfl, h3⟩
  rw [h2.out]
  have h4 := bcell h3
  simp at h4
  have x2 : w1.cell? ⟨w.heap.size, 2, none⟩ = some (.slice A ps.length c) := (h4 _ _ (by omega)).trans (by simp)
  clear h4
  have hw1 := below_from h3
  replace hw1 := Lib.hid hw1
  clear h3
  go_wp2_with fail
  go_loopw [5, 18] (fun m i wr => ∃ (j : Nat) (x : Int), j ≤ ps.length ∧ i = .int .i64 j ∧ m = .int .i64 x ∧ 1 ≤ x ∧ x ≤ 1000 ∧ Hid (Below w.heap.size w wr) ∧ Hid (cntToL ps room 1 = cntToL (ps.drop j) room x)) (fun _ i _ => ps.length - (intOf i).toNat)
  case atStart => exact ⟨0, 1, Nat.zero_le _, rfl, rfl, by omega, by omega, hw1, Lib.hid rfl⟩
  case round =>
    obtain ⟨j, x, hj, rfl, rfl, hx1, hx2, hw, he⟩ := hrel
    by_cases hlt : j < ps.length
    · obtain ⟨b, o, A', c', rfl, hbl, y0, y1, y2, hc', hm', hp'⟩ := hp.out.at (below_up' hb.out hB hw.out) j hlt
      have hbl' : b < wr.heap.size := by have := hw.out.size; omega
      have hd : ps.drop j = ps[j] :: ps.drop (j + 1) := List.drop_eq_getElem_cons hlt
      rw [hd] at he
      have he2 := he.out
      rw [cntToL] at he2
      replace hd := Lib.hid hd
      clear he
      by_cases hx : x > room
      · rw [if_pos hx] at he2
        replace he2 := Lib.hid he2
        go_wp2_with fail
        go_ret
        exact ⟨by rw [hr.out, he2.out]; rfl, below_al hw.out _⟩
      · rw [if_neg hx] at he2
        have hbd := cntTo_bound ps[j] (room - x) (by omega)
        replace he2 := Lib.hid he2
        go_wp2_with fail
        refine (ih.out ps[j] (List.getElem_mem _) (room - x) A' c' B w0 _ (by omega) (by omega) (below_al' (below_up' hb.out hB hw.out) _ (by have := hw.out.size; omega)) (by have := hw.out.size; simp; omega) hc' hm' hp').mono ?_
        rintro e w2 ⟨rfl, h5⟩
        replace h5 := Lib.hid h5
        have hb5 : cntTo ps[j] (room - x) ≤ 300 := by omega
        have hb6 : 1 ≤ cntTo ps[j] (room - x) := hbd.1
        clear hbd y0 y1 y2
        generalize cntTo ps[j] (room - x) = q at *
        go_wp2_with fail
        go_roundw
        case rel => exact ⟨j + 1, x + q, by omega, by go_num, rfl, by omega, by omega, Lib.hid (below_up hw.out (below_from h5.out)), he2⟩
        case measure => simp [intOf]; omega
    · have hd : ps.drop j = [] := List.drop_eq_nil_of_le (by omega)
      rw [hd, cntToL] at he
      replace hd := Lib.hid hd
      go_wp2_with fail
      go_ret
      exact ⟨by rw [hr.out, he.out]; rfl, hw.out⟩

set_option maxHeartbeats 1000000 in
theorem count_calls (t : Task) (A : Option Addr) (c B : Nat) (w0 w : World) (hb : Below B w0 w) (hB : B ≤ w.heap.size) (hc : t.parts.length ≤ c) (hm : c ≤ maxLen) (hp : PartsIs B w0 A 0 t.parts) :
    Calls Try.prog 151 #[.agg #[.int .i64 t.kind, .int .i64 t.n, .slice A t.parts.length c]] w fun e w' => e = .returned (.int .i64 (cnt t)) ∧ Below w.heap.size w w' := by
  obtain ⟨k, n, ps⟩ := t
  simp only [Task.kind, Task.n, Task.parts] at hc hp ⊢
  unfold maxLen at hm
  replace hb := Lib.hid hb
  replace hp := Lib.hid hp
  by_cases h2 : fitsN k n ps.length = false
  · have hr : cnt (.mk k n ps) = 16 := by rw [cnt, if_pos h2]
    replace hr := Lib.hid hr
    replace h2 := Lib.hid h2
    go_enter Try.func151, Try.ntmps151
    go_wp2_with fail
    refine (fits_calls _ _ _ _ _ _).mono ?_
    rintro e w1 ⟨rfl, h3⟩
    rw [h2.out]
    go_wp2_with fail
    go_ret
    exact ⟨by rw [hr.out]; rfl, below_from h3⟩
  have hr : cnt (.mk k n ps) = cntL ps 1 := by rw [cnt, if_neg h2]
  replace hr := Lib.hid hr
  simp only [Bool.not_eq_false] at h2
  replace h2 := Lib.hid h2
  go_enter Try.func151, Try.ntmps151
  go_wp2_with fail
  refine (fits_calls _ _ _ _ _ _).mono ?_
  rintro e w1 ⟨rfl, h3⟩
  rw [h2.out]
  have h4 := bcell h3
  simp at h4
  have x2 : w1.cell? ⟨w.heap.size, 2, none⟩ = some (.slice A ps.length c) := (h4 _ _ (by omega)).trans (by simp)
  clear h4
  have hw1 := below_from h3
  replace hw1 := Lib.hid hw1
  clear h3
  go_wp2_with fail
  go_loopw [3, 12] (fun m i wr => ∃ (j : Nat) (x : Int), j ≤ ps.length ∧ i = .int .i64 j ∧ m = .int .i64 x ∧ 1 ≤ x ∧ x ≤ 1000 ∧ Hid (Below w.heap.size w wr) ∧ Hid (cntL ps 1 = cntL (ps.drop j) x)) (fun _ i _ => ps.length - (intOf i).toNat)
  case atStart => exact ⟨0, 1, Nat.zero_le _, rfl, rfl, by omega, by omega, hw1, Lib.hid rfl⟩
  case round =>
    obtain ⟨j, x, hj, rfl, rfl, hx1, hx2, hw, he⟩ := hrel
    by_cases hlt : j < ps.length
    · obtain ⟨b, o, A', c', rfl, hbl, y0, y1, y2, hc', hm', hp'⟩ := hp.out.at (below_up' hb.out hB hw.out) j hlt
      have hbl' : b < wr.heap.size := by have := hw.out.size; omega
      have hd : ps.drop j = ps[j] :: ps.drop (j + 1) := List.drop_eq_getElem_cons hlt
      rw [hd] at he
      have he2 := he.out
      rw [cntL] at he2
      replace hd := Lib.hid hd
      clear he
      by_cases hx : x > 15
      · rw [if_pos hx] at he2
        replace he2 := Lib.hid he2
        go_wp2_with fail
        go_ret
        exact ⟨by rw [hr.out, he2.out]; rfl, below_al hw.out _⟩
      · rw [if_neg hx] at he2
        have hbd := cntTo_bound ps[j] (15 - x) (by omega)
        replace he2 := Lib.hid he2
        go_wp2_with fail
        refine (countTo_calls ps[j] (15 - x) A' c' B w0 _ (by omega) (by omega) (below_al' (below_up' hb.out hB hw.out) _ (by have := hw.out.size; omega)) (by have := hw.out.size; simp; omega) hc' hm' hp').mono ?_
        rintro e w2 ⟨rfl, h5⟩
        replace h5 := Lib.hid h5
        have hb5 : cntTo ps[j] (15 - x) ≤ 300 := by omega
        have hb6 : 1 ≤ cntTo ps[j] (15 - x) := hbd.1
        clear hbd y0 y1 y2
        generalize cntTo ps[j] (15 - x) = q at *
        go_wp2_with fail
        go_roundw
        case rel => exact ⟨j + 1, x + q, by omega, by go_num, rfl, by omega, by omega, Lib.hid (below_up hw.out (below_from h5.out)), he2⟩
        case measure => simp [intOf]; omega
    · have hd : ps.drop j = [] := List.drop_eq_nil_of_le (by omega)
      rw [hd, cntL] at he
      replace hd := Lib.hid hd
      go_wp2_with fail
      go_ret
      exact ⟨by rw [hr.out, he.out]; rfl, hw.out⟩

theorem taskOk_calls (t : Task) (A : Option Addr) (c B : Nat) (w0 w : World) (hb : Below B w0 w) (hB : B ≤ w.heap.size) (hc : t.parts.length ≤ c) (hm : c ≤ maxLen) (hp : PartsIs B w0 A 0 t.parts) :
    Calls Try.prog 125 #[.agg #[.int .i64 t.kind, .int .i64 t.n, .slice A t.parts.length c]] w fun e w' => e = .returned (.bool (okT t)) ∧ Below w.heap.size w w' := by
  have h := fun w1 (hb1 : Below B w0 w1) (hB1 : B ≤ w1.heap.size) => count_calls t A c B w0 w1 hb1 hB1 hc hm hp
  have hr := cnt_okT t
  replace h := Lib.hid h
  replace hr := Lib.hid hr
  replace hb := Lib.hid hb
  clear hp
  go_enter Try.func125, Try.ntmps125
  go_wp2_with fail
  refine (h.out _ (below_al' hb.out _ hB) (by simp; omega)).mono ?_
  rintro e w1 ⟨rfl, h3⟩
  replace h3 := Lib.hid h3
  go_wp2_with fail
  go_ret
  exact ⟨by rw [← hr.out]; rfl, below_from h3.out⟩
end Go.Proofs.Ytpccgdkidnkppaa
