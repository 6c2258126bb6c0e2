import Derived.Test.YtagmdljdcnmpdaaOwnT
set_option linter.unusedVariables false
set_option linter.unusedSimpArgs false
namespace Go.Proofs.Ytagmdljdcnmpdaa
open Go Go.RowKit

/-! drawn tasks: G tells of a block that it is a row of parts, its rank and how many parts it has -/
def Rows := Nat → Option (Nat × Nat)
def TyV (G : Rows) (r : Nat) (v : Value) : Prop := ∃ (k n : Int) (A : Option Addr) (m c : Nat), v = .agg #[.int .i64 k, .int .i64 n, .slice A m c] ∧ m ≤ 3 ∧ m ≤ c ∧ c ≤ maxLen ∧ (k = 5 → 1 ≤ m) ∧
  (m = 0 ∨ ∃ b r', A = some ⟨b, 0, none⟩ ∧ G b = some (r', m) ∧ r' < r)
def TyH (g B : Nat) (G : Rows) (w : World) : Prop := ∀ b r m, G b = some (r, m) → B ≤ b ∧ b ≠ g ∧ ∃ cs, w.heap[b]? = some (.cells cs 36 (0, 0)) ∧
  ∀ i, i < m → ∃ x y z, cs[i * 3]? = some x ∧ cs[i * 3 + 1]? = some y ∧ cs[i * 3 + 2]? = some z ∧ TyV G r (.agg #[x, y, z])
structure Ext (G G' : Rows) (n : Nat) : Prop where
  old : ∀ b x, G b = some x → G' b = some x
  new : ∀ b x, G' b = some x → G b = some x ∨ n ≤ b
theorem Ext.refl (G : Rows) (n : Nat) : Ext G G n := ⟨fun _ _ h => h, fun _ _ h => .inl h⟩
theorem Ext.trans {G G' G2 : Rows} {n n' : Nat} (h : Ext G G' n) (k : Ext G' G2 n') (hn : n ≤ n') : Ext G G2 n :=
  ⟨fun b x hx => k.old b x (h.old b x hx), fun b x hx => (k.new b x hx).elim (h.new b x) (fun h => .inr (by omega))⟩
theorem TyV.ext {G G' : Rows} {n r r2 : Nat} {v : Value} (h : TyV G r v) (k : Ext G G' n) (hr : r ≤ r2) : TyV G' r2 v := by
  obtain ⟨kk, nn, A, m, c, e, h1, h2, h3, h5, h4⟩ := h
  refine ⟨kk, nn, A, m, c, e, h1, h2, h3, h5, h4.imp id ?_⟩
  rintro ⟨b, r', e, hb, hr'⟩
  exact ⟨b, r', e, k.old _ _ hb, by omega⟩
theorem TyH.turn {g B : Nat} {G : Rows} {w w' : World} (h : TyH g B G w) {F F' : Nat → Prop} (t : Turn F F' w w') (hF : ∀ b x, G b = some x → ¬ F b) : TyH g B G w' := by
  intro b r m hb
  obtain ⟨h1, h2, cs, h3, h4⟩ := h b r m hb
  exact ⟨h1, h2, cs, (t.block b (block_lt h3) (hF b _ hb)).trans h3, h4⟩
theorem TyH.turng {g B : Nat} {G : Rows} {w w' : World} (h : TyH g B G w) {F' : Nat → Prop} (t : Turn (· = g) F' w w') : TyH g B G w' :=
  h.turn t (fun b x hb => (h b x.1 x.2 hb).2.1)
theorem TyH.alloc {g B : Nat} {G : Rows} {w : World} (h : TyH g B G w) (o : Obj) : TyH g B G (w.alloc o) :=
  h.turn ((Turn.refl (fun _ => False) w).alloc o) (fun _ _ _ h => h)
theorem TyH.drew {g B : Nat} {G : Rows} {w : World} (h : TyH g B G w) : TyH g B G w.drew := h
theorem TyH.set {g B : Nat} {G : Rows} {w : World} (h : TyH g B G w) {b o : Nat} (v : Value) (hb : ∀ x, G b ≠ some x) : TyH g B G (w.setCell ⟨b, o, none⟩ v) :=
  h.turn (setCell_turn (F := (· = b)) rfl v) (fun b' x hx e => by cases e; exact hb _ hx)
def withRow (G : Rows) (b r m : Nat) : Rows := fun i => if i = b then some (r, m) else G i
theorem TyH.lt {g B : Nat} {G : Rows} {w : World} (h : TyH g B G w) {b : Nat} {x : Nat × Nat} (hb : G b = some x) : b < w.heap.size := by
  obtain ⟨_, _, _, h3, _⟩ := h b x.1 x.2 hb
  exact block_lt h3
theorem Ext.row (G : Rows) {g B : Nat} {w : World} (h : TyH g B G w) (r m : Nat) : Ext G (withRow G w.heap.size r m) w.heap.size := by
  refine ⟨fun b x hb => ?_, fun b x hb => ?_⟩
  · have := h.lt hb
    unfold withRow
    rw [if_neg (by omega)]; exact hb
  · unfold withRow at hb
    split at hb
    · right; omega
    · exact .inl hb
theorem TyH.row {g B : Nat} {G : Rows} {w : World} (h : TyH g B G w) (r m : Nat) (cs : Array Value) (hB : B ≤ w.heap.size) (hg : g < w.heap.size)
    (hi : ∀ i, i < m → ∃ x y z, cs[i * 3]? = some x ∧ cs[i * 3 + 1]? = some y ∧ cs[i * 3 + 2]? = some z ∧ TyV G r (.agg #[x, y, z])) :
    TyH g B (withRow G w.heap.size r m) (w.alloc (.cells cs 36 (0, 0))) := by
  have he := Ext.row G h r m
  intro b r' m' hb
  unfold withRow at hb
  split at hb
  · rename_i e
    cases hb; subst e
    refine ⟨hB, by omega, cs, heap_new rfl, fun i h' => ?_⟩
    obtain ⟨x, y, z, h1, h2, h3, h4⟩ := hi i h'
    exact ⟨x, y, z, h1, h2, h3, h4.ext he (Nat.le_refl _)⟩
  · obtain ⟨h1, h2, cs', h3, h4⟩ := h b r' m' hb
    refine ⟨h1, h2, cs', (heap_old (block_lt h3)).trans h3, fun i h' => ?_⟩
    obtain ⟨x, y, z, k1, k2, k3, k4⟩ := h4 i h'
    exact ⟨x, y, z, k1, k2, k3, k4.ext he (Nat.le_refl _)⟩
theorem tyv_leaf (G : Rows) (r : Nat) (k n : Int) (hk : k ≠ 5) : TyV G r (.agg #[.int .i64 k, .int .i64 n, .slice none 0 0]) :=
  ⟨k, n, none, 0, 0, rfl, by omega, by omega, by simp [maxLen], fun e => (hk e).elim, .inl rfl⟩
theorem tyv_row (G : Rows) (b r m : Nat) (k n : Int) (hm : m ≤ 3) (h1 : 1 ≤ m) : TyV (withRow G b r m) (r + 1) (.agg #[.int .i64 k, .int .i64 n, .slice (some ⟨b, 0, none⟩) m m]) :=
  ⟨k, n, _, m, m, rfl, hm, by omega, by simp [maxLen]; omega, fun _ => h1, .inr ⟨b, r, rfl, by simp [withRow], by omega⟩⟩

def cost : Nat → Nat
  | 0 => 3
  | d + 1 => 3 * cost d + 3
/-- what a draw of a task brings -/
def DrawT (R : RdEnv) (G : Rows) (p c r : Nat) (w : World) (e : Ending) (w' : World) : Prop :=
  ∃ p' G' v, e = .returned v ∧ TyV G' r v ∧ p ≤ p' ∧ p' ≤ p + c ∧ RdAt R p' w' ∧ Turn (· = R.g) (· = R.g) w w' ∧ Ext G G' w.heap.size ∧ TyH R.g R.B G' w'

set_option maxHeartbeats 1000000 in
theorem l91Key_calls (R : RdEnv) (hR : R.Good) (p : Nat) (hp : p + 2 ≤ 1000000) (below : Int) (w : World) (h : RdAt R p w) :
    Calls Try.prog 103 #[.pointer (some ⟨R.g, 0, none⟩), .int .i64 below] w fun e w' => ∃ p' v, e = .returned (.int .i64 v) ∧ p ≤ p' ∧ p' ≤ p + 2 ∧ RdAt R p' w' ∧ Turn (· = R.g) (· = R.g) w w' := by
  have h1 := pick_calls R hR p (by omega) 25 w h
  replace h1 := Lib.hid h1
  replace h := Lib.hid h
  go_enter Try.func103, Try.ntmps103
  go_wp2_with fail
  refine h1.out.mono ?_
  rintro e w1 ⟨k, rfl, hk0, hk1, hr, ht⟩
  have h2 := pick_calls R hR (p + 1) (by omega) below w1 hr
  replace hr := Lib.hid hr
  replace ht := Lib.hid ht
  replace h2 := Lib.hid h2
  by_cases hk : k = 0
  · subst hk
    go_wp2_with fail
    go_ret
    exact ⟨p + 1, 9, rfl, by omega, by omega, hr.out, ht.out⟩
  · have e1 : (k == 0) = false := by simp [hk]
    go_wp2_with fail
    refine h2.out.mono ?_
    rintro e w2 ⟨v, rfl, _, _, hr2, ht2⟩
    replace hr2 := Lib.hid hr2
    replace ht2 := Lib.hid ht2
    go_wp2_with fail
    go_ret
    exact ⟨p + 1 + 1, v, rfl, by omega, by omega, hr2.out, ht.out.trans ht2.out⟩
theorem ret_task {fn : Func} {t : Nat} {tmps : Array Value} {Q : Ending → World → Prop} {W : World} {m : Nat} {a b c : Value} (hr : fn.results = #[.cell t 36])
    (ht : tmps.getD t undef = .pointer (some ⟨m, 0, none⟩)) (hW : W.heap[m]? = some (.cells #[a, b, c] 36 (0, 0))) (K : Q (.returned (.agg #[a, b, c])) W) : bodyPost Try.prog fn Q .ret ⟨tmps, []⟩ W := by
  have y0 : W.cell? ⟨m, 0, none⟩ = some a := cellm hW 0
  have y1 : W.cell? ⟨m, 1, none⟩ = some b := cellm hW 1
  have y2 : W.cell? ⟨m, 2, none⟩ = some c := cellm hW 2
  refine bodyPost_ret (v := .agg #[a, b, c]) ?_ rfl K
  have ht' : tmps[t]?.getD undef = .pointer (some ⟨m, 0, none⟩) := by simpa using ht
  simp [results, hr, ht', go_sem, y0, y1, y2]

/-- behind w, whose next block is the result's: what a draw has brought so far -/
structure DSt (R : RdEnv) (G : Rows) (w : World) (G' : Rows) (p' : Nat) (w' : World) : Prop where
  rd : RdAt R p' w'
  turn : Turn (· = R.g) (· = R.g) w w'
  ext : Ext G G' (w.heap.size + 1)
  ty : TyH R.g R.B G' w'
  res : w'.heap[w.heap.size]? = some (.cells #[.int .i64 0, .int .i64 0, .slice none 0 0] 36 (0, 0))
  old : ∀ x, G w.heap.size ≠ some x
  glt : R.g < w.heap.size
  bw : R.B ≤ w.heap.size
section
variable {R : RdEnv} {G G1 : Rows} {w w1 : World} {p p1 : Nat}
theorem DSt.start (h : RdAt R p w) (hG : TyH R.g R.B G w) : DSt R G w G p (w.alloc (.cells #[.int .i64 0, .int .i64 0, .slice none 0 0] 36 (0, 0))) :=
  ⟨h.up (below_al (Below.refl _ _) _), (Turn.refl _ _).alloc _, Ext.refl _ _, hG.alloc _, heap_new rfl, fun x hx => by have := hG.lt hx; omega, block_lt h.blk, h.size⟩
theorem DSt.lt (h : DSt R G w G1 p1 w1) : w.heap.size < w1.heap.size := block_lt h.res
theorem DSt.draw (h : DSt R G w G1 p1 w1) {G2 : Rows} {p2 : Nat} {w2 : World} (rd : RdAt R p2 w2) (t : Turn (· = R.g) (· = R.g) w1 w2) (he : Ext G1 G2 w1.heap.size) (ty : TyH R.g R.B G2 w2) : DSt R G w G2 p2 w2 :=
  ⟨rd, h.turn.trans t, h.ext.trans he (by have := h.lt; omega), ty, (t.block _ h.lt (by intro e; have := h.glt; omega)).trans h.res, h.old, h.glt, h.bw⟩
theorem DSt.step (h : DSt R G w G1 p1 w1) {p2 : Nat} {w2 : World} (rd : RdAt R p2 w2) (t : Turn (· = R.g) (· = R.g) w1 w2) : DSt R G w G1 p2 w2 :=
  h.draw rd t (Ext.refl _ _) (h.ty.turng t)
theorem DSt.row (h : DSt R G w G1 p1 w1) (r m : Nat) (cs : Array Value) (hi : ∀ i, i < m → ∃ x y z, cs[i * 3]? = some x ∧ cs[i * 3 + 1]? = some y ∧ cs[i * 3 + 2]? = some z ∧ TyV G1 r (.agg #[x, y, z])) :
    DSt R G w (withRow G1 w1.heap.size r m) p1 (w1.alloc (.cells cs 36 (0, 0))) :=
  h.draw (h.rd.up (below_al (Below.refl _ _) _)) ((Turn.refl _ _).alloc _) (Ext.row G1 h.ty r m) (h.ty.row r m cs h.rd.size (block_lt h.rd.blk) hi)
theorem DSt.done (h : DSt R G w G1 p1 w1) {p c r : Nat} {x y z : Value} {fn : Func} {t : Nat} {tmps : Array Value} (hr : fn.results = #[.cell t 36])
    (ht : tmps.getD t undef = .pointer (some ⟨w.heap.size, 0, none⟩)) (hv : TyV G1 r (.agg #[x, y, z])) (hp : p ≤ p1 ∧ p1 ≤ p + c) :
    bodyPost Try.prog fn (DrawT R G p c r w) .ret ⟨tmps, []⟩ (((w1.setCell ⟨w.heap.size, 0, none⟩ x).setCell ⟨w.heap.size, 1, none⟩ y).setCell ⟨w.heap.size, 2, none⟩ z) := by
  have hne : ∀ q, G1 w.heap.size ≠ some q := fun q hq => (h.ext.new _ _ hq).elim (h.old q) (fun hn => by omega)
  have hgl := h.glt
  have t3 : Turn (· = w.heap.size) (· = w.heap.size) w1 (((w1.setCell ⟨w.heap.size, 0, none⟩ x).setCell ⟨w.heap.size, 1, none⟩ y).setCell ⟨w.heap.size, 2, none⟩ z) :=
    ((setCell_turn (F := (· = w.heap.size)) rfl x).trans (setCell_turn (F := (· = w.heap.size)) rfl y)).trans (setCell_turn (F := (· = w.heap.size)) rfl z)
  have hb : Below w.heap.size w1 (((w1.setCell ⟨w.heap.size, 0, none⟩ x).setCell ⟨w.heap.size, 1, none⟩ y).setCell ⟨w.heap.size, 2, none⟩ z) := t3.below (Nat.le_of_lt h.lt) (fun i e => by cases e; exact Nat.le_refl _)
  refine ret_task hr ht ((setCell_block (setCell_block (setCell_block h.res 0 x) 1 y) 2 z).trans rfl) ⟨p1, G1, _, rfl, hv, hp.1, hp.2, ?_, ?_, ?_, ?_⟩
  · exact h.rd.kept (hb.block _ hgl) (h.rd.below.trans (hb.mono h.bw)) (Nat.le_trans h.rd.size hb.size)
  · exact ⟨hb.os.trans h.turn.os, hb.tape.trans h.turn.tape, hb.output.trans h.turn.output, Nat.le_trans h.turn.size hb.size, fun i hi hF => (hb.block i hi).trans (h.turn.block i hi hF), h.turn.fresh⟩
  · exact ⟨h.ext.old, fun b q hq => (h.ext.new b q hq).imp id (fun hn => by omega)⟩
  · exact h.ty.turn t3 (fun b q hq e => by cases e; exact hne _ hq)
theorem DSt.done' {ob : Obj} (h : DSt R G w G1 p1 (w1.alloc ob)) (hl : w.heap.size < w1.heap.size) {p c r : Nat} {x y z : Value} {fn : Func} {t : Nat} {tmps : Array Value} (hr : fn.results = #[.cell t 36])
    (ht : tmps.getD t undef = .pointer (some ⟨w.heap.size, 0, none⟩)) (hv : TyV G1 r (.agg #[x, y, z])) (hp : p ≤ p1 ∧ p1 ≤ p + c) :
    bodyPost Try.prog fn (DrawT R G p c r w) .ret ⟨tmps, []⟩ ((((w1.setCell ⟨w.heap.size, 0, none⟩ x).setCell ⟨w.heap.size, 1, none⟩ y).setCell ⟨w.heap.size, 2, none⟩ z).alloc ob) := by
  have := h.done hr ht hv hp
  rwa [World.setCell_alloc_past _ _ _ _ hl, World.setCell_alloc_past _ _ _ _ (by simpa using hl), World.setCell_alloc_past _ _ _ _ (by simpa using hl)] at this
theorem row1 {G : Rows} {r : Nat} {a b c : Value} (h : TyV G r (.agg #[a, b, c])) : ∀ i, i < 1 → ∃ x y z, (#[a, b, c] : Array Value)[i * 3]? = some x ∧ (#[a, b, c] : Array Value)[i * 3 + 1]? = some y ∧ (#[a, b, c] : Array Value)[i * 3 + 2]? = some z ∧ TyV G r (.agg #[x, y, z]) := by
  intro i hi
  obtain rfl : i = 0 := by omega
  exact ⟨_, _, _, rfl, rfl, rfl, h⟩
theorem row2 {G : Rows} {r : Nat} {a b c a2 b2 c2 : Value} (h : TyV G r (.agg #[a, b, c])) (h2 : TyV G r (.agg #[a2, b2, c2])) : ∀ i, i < 2 → ∃ x y z, (#[a, b, c, a2, b2, c2] : Array Value)[i * 3]? = some x ∧ (#[a, b, c, a2, b2, c2] : Array Value)[i * 3 + 1]? = some y ∧ (#[a, b, c, a2, b2, c2] : Array Value)[i * 3 + 2]? = some z ∧ TyV G r (.agg #[x, y, z]) := by
  intro i hi
  rcases (show i = 0 ∨ i = 1 by omega) with rfl | rfl
  · exact ⟨_, _, _, rfl, rfl, rfl, h⟩
  · exact ⟨_, _, _, rfl, rfl, rfl, h2⟩
theorem row3 {G : Rows} {r : Nat} {a b c a2 b2 c2 a3 b3 c3 : Value} (h : TyV G r (.agg #[a, b, c])) (h2 : TyV G r (.agg #[a2, b2, c2])) (h3 : TyV G r (.agg #[a3, b3, c3])) : ∀ i, i < 3 → ∃ x y z, (#[a, b, c, a2, b2, c2, a3, b3, c3] : Array Value)[i * 3]? = some x ∧ (#[a, b, c, a2, b2, c2, a3, b3, c3] : Array Value)[i * 3 + 1]? = some y ∧ (#[a, b, c, a2, b2, c2, a3, b3, c3] : Array Value)[i * 3 + 2]? = some z ∧ TyV G r (.agg #[x, y, z]) := by
  intro i hi
  rcases (show i = 0 ∨ i = 1 ∨ i = 2 by omega) with rfl | rfl | rfl
  · exact ⟨_, _, _, rfl, rfl, rfl, h⟩
  · exact ⟨_, _, _, rfl, rfl, rfl, h2⟩
  · exact ⟨_, _, _, rfl, rfl, rfl, h3⟩
/-- the facts that the store of the result asks for -/
theorem DSt.cells (h : DSt R G w G1 p1 w1) : w1.cell? ⟨w.heap.size, 0, none⟩ = some (.int .i64 0) ∧ w1.cell? ⟨w.heap.size, 1, none⟩ = some (.int .i64 0) ∧ w1.cell? ⟨w.heap.size, 2, none⟩ = some (.slice none 0 0) ∧
    w1.frozen? ⟨w.heap.size, 0, none⟩ = false ∧ w1.frozen? ⟨w.heap.size, 1, none⟩ = false ∧ w1.frozen? ⟨w.heap.size, 2, none⟩ = false :=
  ⟨cellm h.res 0, cellm h.res 1, cellm h.res 2, frozenm h.res 0, frozenm h.res 1, frozenm h.res 2⟩
end
theorem ret_sheet {fn : Func} {t : Nat} {tmps : Array Value} {Q : Ending → World → Prop} {W : World} {m : Nat} {a b : Value} (hr : fn.results = #[.cell t 26])
    (ht : tmps.getD t undef = .pointer (some ⟨m, 0, none⟩)) (hW : W.heap[m]? = some (.cells #[a, b] 26 (0, 0))) (K : Q (.returned (.agg #[a, b])) W) : bodyPost Try.prog fn Q .ret ⟨tmps, []⟩ W := by
  have y0 : W.cell? ⟨m, 0, none⟩ = some a := cellm hW 0
  have y1 : W.cell? ⟨m, 1, none⟩ = some b := cellm hW 1
  refine bodyPost_ret (v := .agg #[a, b]) ?_ rfl K
  have ht' : tmps[t]?.getD undef = .pointer (some ⟨m, 0, none⟩) := by simpa using ht
  simp [results, hr, ht', go_sem, y0, y1]
end Go.Proofs.Ytagmdljdcnmpdaa
