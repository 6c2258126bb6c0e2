import Derived.Test.YtpccgdkidnkppaaProg
import Derived.Test.YtpccgdkidnkppaaPk1FnOrderFits
set_option linter.unusedVariables false
set_option linter.unusedSimpArgs false
namespace Go.Proofs.Ytpccgdkidnkppaa
open Go Go.RowKit

/-! drawn tasks: G tells of a block that it is a row of parts, its rank and how many parts it has -/
def Rows := Nat → Option (Nat × Nat)
def TyV (G : Rows) (r : Nat) (v : Value) : Prop := ∃ (k n : Int) (A : Option Addr) (m c : Nat), v = .agg #[.int .i64 k, .int .i64 n, .slice A m c] ∧ m ≤ 3 ∧ m ≤ c ∧ c ≤ maxLen ∧ (k = 5 → 1 ≤ m) ∧
  (m = 0 ∨ ∃ b r', A = some ⟨b, 0, none⟩ ∧ G b = some (r', m) ∧ r' < r)
def TyH (g B : Nat) (G : Rows) (w : World) : Prop := ∀ b r m, G b = some (r, m) → B ≤ b ∧ b ≠ g ∧ ∃ cs, w.heap[b]? = some (.cells cs 48 (0, 0)) ∧
  ∀ i, i < m → ∃ x y z, cs[i * 3]? = some x ∧ cs[i * 3 + 1]? = some y ∧ cs[i * 3 + 2]? = some z ∧ TyV G r (.agg #[x, y, z])
structure Ext (G G' : Rows) (n : Nat) : Prop where
  old : ∀ b x, G b = some x → G' b = some x
  new : ∀ b x, G' b = some x → G b = some x ∨ n ≤ b
theorem Ext.refl (G : Rows) (n : Nat) : Ext G G n := ⟨fun _ _ h => h, fun _ _ h => .inl h⟩
theorem Ext.trans {G G' G2 : Rows} {n n' : Nat} (h : Ext G G' n) (k : Ext G' G2 n') (hn : n ≤ n') : Ext G G2 n :=
  ⟨fun b x hx => k.old b x (h.old b x hx), fun b x hx => (k.new b x hx).elim (h.new b x) (fun h => .inr (by omega))⟩
theorem TyV.ext {G G' : Rows} {n r r2 : Nat} {v : Value} (h : TyV G r v) (k : Ext G G' n) (hr : r ≤ r2) : TyV G' r2 v := by
  obtain ⟨kk, nn, A, m, c, e, h1, h2, h3, h5, h4⟩ := h
  refine ⟨kk, nn, A, m, c, e, h1, h2, h3, h5, h4.imp id ?_⟩
  rintro ⟨b, r', e, hb, hr'⟩
  exact ⟨b, r', e, k.old _ _ hb, by omega⟩
theorem TyH.turn {g B : Nat} {G : Rows} {w w' : World} (h : TyH g B G w) {F F' : Nat → Prop} (t : Turn F F' w w') (hF : ∀ b x, G b = some x → ¬ F b) : TyH g B G w' := by
  intro b r m hb
  obtain ⟨h1, h2, cs, h3, h4⟩ := h b r m hb
  exact ⟨h1, h2, cs, (t.block b (block_lt h3) (hF b _ hb)).trans h3, h4⟩
theorem TyH.turng {g B : Nat} {G : Rows} {w w' : World} (h : TyH g B G w) {F' : Nat → Prop} (t : Turn (· = g) F' w w') : TyH g B G w' :=
  h.turn t (fun b x hb => (h b x.1 x.2 hb).2.1)
theorem TyH.alloc {g B : Nat} {G : Rows} {w : World} (h : TyH g B G w) (o : Obj) : TyH g B G (w.alloc o) :=
  h.turn ((Turn.refl (fun _ => False) w).alloc o) (fun _ _ _ h => h)
theorem TyH.drew {g B : Nat} {G : Rows} {w : World} (h : TyH g B G w) : TyH g B G w.drew := h
theorem TyH.set {g B : Nat} {G : Rows} {w : World} (h : TyH g B G w) {b o : Nat} (v : Value) (hb : ∀ x, G b ≠ some x) : TyH g B G (w.setCell ⟨b, o, none⟩ v) :=
  h.turn (setCell_turn (F := (· = b)) rfl v) (fun b' x hx e => by cases e; exact hb _ hx)
def withRow (G : Rows) (b r m : Nat) : Rows := fun i => if i = b then some (r, m) else G i
theorem TyH.lt {g B : Nat} {G : Rows} {w : World} (h : TyH g B G w) {b : Nat} {x : Nat × Nat} (hb : G b = some x) : b < w.heap.size := by
  obtain ⟨_, _, _, h3, _⟩ := h b x.1 x.2 hb
  exact block_lt h3
theorem Ext.row (G : Rows) {g B : Nat} {w : World} (h : TyH g B G w) (r m : Nat) : Ext G (withRow G w.heap.size r m) w.heap.size := by
  refine ⟨fun b x hb => ?_, fun b x hb => ?_⟩
  · have := h.lt hb
    unfold withRow
    rw [if_neg (by omega)]; exact hb
  · unfold withRow at hb
    split at hb
    · right; omega
    · exact .inl hb
theorem TyH.row {g B : Nat} {G : Rows} {w : World} (h : TyH g B G w) (r m : Nat) (cs : Array Value) (hB : B ≤ w.heap.size) (hg : g < w.heap.size)
    (hi : ∀ i, i < m → ∃ x y z, cs[i * 3]? = some x ∧ cs[i * 3 + 1]? = some y ∧ cs[i * 3 + 2]? = some z ∧ TyV G r (.agg #[x, y, z])) :
    TyH g B (withRow G w.heap.size r m) (w.alloc (.cells cs 48 (0, 0))) := by
  have he := Ext.row G h r m
  intro b r' m' hb
  unfold withRow at hb
  split at hb
  · rename_i e
    cases hb; subst e
    refine ⟨hB, by omega, cs, heap_new rfl, fun i h' => ?_⟩
    obtain ⟨x, y, z, h1, h2, h3, h4⟩ := hi i h'
    exact ⟨x, y, z, h1, h2, h3, h4.ext he (Nat.le_refl _)⟩
  · obtain ⟨h1, h2, cs', h3, h4⟩ := h b r' m' hb
    refine ⟨h1, h2, cs', (heap_old (block_lt h3)).trans h3, fun i h' => ?_⟩
    obtain ⟨x, y, z, k1, k2, k3, k4⟩ := h4 i h'
    exact ⟨x, y, z, k1, k2, k3, k4.ext he (Nat.le_refl _)⟩
theorem tyv_leaf (G : Rows) (r : Nat) (k n : Int) (hk : k ≠ 5) : TyV G r (.agg #[.int .i64 k, .int .i64 n, .slice none 0 0]) :=
  ⟨k, n, none, 0, 0, rfl, by omega, by omega, by simp [maxLen], fun e => (hk e).elim, .inl rfl⟩
theorem tyv_row (G : Rows) (b r m : Nat) (k n : Int) (hm : m ≤ 3) (h1 : 1 ≤ m) : TyV (withRow G b r m) (r + 1) (.agg #[.int .i64 k, .int .i64 n, .slice (some ⟨b, 0, none⟩) m m]) :=
  ⟨k, n, _, m, m, rfl, hm, by omega, by simp [maxLen]; omega, fun _ => h1, .inr ⟨b, r, rfl, by simp [withRow], by omega⟩⟩

def cost : Nat → Nat
  | 0 => 3
  | d + 1 => 3 * cost d + 3
/-- what a draw of a task brings -/
def DrawT (R : RdEnv) (G : Rows) (p c r : Nat) (w : World) (e : Ending) (w' : World) : Prop :=
  ∃ p' G' v, e = .returned v ∧ TyV G' r v ∧ p ≤ p' ∧ p' ≤ p + c ∧ RdAt R p' w' ∧ Turn (· = R.g) (· = R.g) w w' ∧ Ext G G' w.heap.size ∧ TyH R.g R.B G' w'

set_option maxHeartbeats 1000000 in
theorem l91Key_calls (R : RdEnv) (hR : R.Good) (p : Nat) (hp : p + 2 ≤ 1000000) (below : Int) (w : World) (h : RdAt R p w) :
    Calls Try.prog 161 #[.pointer (some ⟨R.g, 0, none⟩), .int .i64 below] w fun e w' => ∃ p' v, e = .returned (.int .i64 v) ∧ p ≤ p' ∧ p' ≤ p + 2 ∧ RdAt R p' w' ∧ Turn (· = R.g) (· = R.g) w w' := by
  have h1 := pick_calls R hR p (by omega) 25 w h
  replace h1 := Lib.hid h1
  replace h := Lib.hid h
  go_enter Try.func161, Try.ntmps161
  go_wp2_with fail
  refine h1.out.mono ?_
  rintro e w1 ⟨k, rfl, hk0, hk1, hr, ht⟩
  have h2 := pick_calls R hR (p + 1) (by omega) below w1 hr
  replace hr := Lib.hid hr
  replace ht := Lib.hid ht
  replace h2 := Lib.hid h2
  by_cases hk : k = 0
  · subst hk
    go_wp2_with fail
    go_ret
    exact ⟨p + 1, 9, rfl, by omega, by omega, hr.out, ht.out⟩
  · have e1 : (k == 0) = false := by simp [hk]
    go_wp2_with fail
    refine h2.out.mono ?_
    rintro e w2 ⟨v, rfl, _, _, hr2, ht2⟩
    replace hr2 := Lib.hid hr2
    replace ht2 := Lib.hid ht2
    go_wp2_with fail
    go_ret
    exact ⟨p + 1 + 1, v, rfl, by omega, by omega, hr2.out, ht.out.trans ht2.out⟩
theorem ret_task {fn : Func} {t : Nat} {tmps : Array Value} {Q : Ending → World → Prop} {W : World} {m : Nat} {a b c : Value} (hr : fn.results = #[.cell t 48])
    (ht : tmps.getD t undef = .pointer (some ⟨m, 0, none⟩)) (hW : W.heap[m]? = some (.cells #[a, b, c] 48 (0, 0))) (K : Q (.returned (.agg #[a, b, c])) W) : bodyPost Try.prog fn Q .ret ⟨tmps, []⟩ W := by
  have y0 : W.cell? ⟨m, 0, none⟩ = some a := cellm hW 0
  have y1 : W.cell? ⟨m, 1, none⟩ = some b := cellm hW 1
  have y2 : W.cell? ⟨m, 2, none⟩ = some c := cellm hW 2
  refine bodyPost_ret (v := .agg #[a, b, c]) ?_ rfl K
  have ht' : tmps[t]?.getD undef = .pointer (some ⟨m, 0, none⟩) := by simpa using ht
  simp [results, hr, ht', go_sem, y0, y1, y2]

/-- behind w, whose next block is the result's: what a draw has brought so far -/
structure DSt (R : RdEnv) (G : Rows) (w : World) (G' : Rows) (p' : Nat) (w' : World) : Prop where
  rd : RdAt R p' w'
  turn : Turn (· = R.g) (· = R.g) w w'
  ext : Ext G G' (w.heap.size + 1)
  ty : TyH R.g R.B G' w'
  res : w'.heap[w.heap.size]? = some (.cells #[.int .i64 0, .int .i64 0, .slice none 0 0] 48 (0, 0))
  old : ∀ x, G w.heap.size ≠ some x
  glt : R.g < w.heap.size
  bw : R.B ≤ w.heap.size
section
variable {R : RdEnv} {G G1 : Rows} {w w1 : World} {p p1 : Nat}
theorem DSt.start (h : RdAt R p w) (hG : TyH R.g R.B G w) : DSt R G w G p (w.alloc (.cells #[.int .i64 0, .int .i64 0, .slice none 0 0] 48 (0, 0))) :=
  ⟨h.up (below_al (Below.refl _ _) _), (Turn.refl _ _).alloc _, Ext.refl _ _, hG.alloc _, heap_new rfl, fun x hx => by have := hG.lt hx; omega, block_lt h.blk, h.size⟩
theorem DSt.lt (h : DSt R G w G1 p1 w1) : w.heap.size < w1.heap.size := block_lt h.res
theorem DSt.draw (h : DSt R G w G1 p1 w1) {G2 : Rows} {p2 : Nat} {w2 : World} (rd : RdAt R p2 w2) (t : Turn (· = R.g) (· = R.g) w1 w2) (he : Ext G1 G2 w1.heap.size) (ty : TyH R.g R.B G2 w2) : DSt R G w G2 p2 w2 :=
  ⟨rd, h.turn.trans t, h.ext.trans he (by have := h.lt; omega), ty, (t.block _ h.lt (by intro e; have := h.glt; omega)).trans h.res, h.old, h.glt, h.bw⟩
theorem DSt.step (h : DSt R G w G1 p1 w1) {p2 : Nat} {w2 : World} (rd : RdAt R p2 w2) (t : Turn (· = R.g) (· = R.g) w1 w2) : DSt R G w G1 p2 w2 :=
  h.draw rd t (Ext.refl _ _) (h.ty.turng t)
theorem DSt.row (h : DSt R G w G1 p1 w1) (r m : Nat) (cs : Array Value) (hi : ∀ i, i < m → ∃ x y z, cs[i * 3]? = some x ∧ cs[i * 3 + 1]? = some y ∧ cs[i * 3 + 2]? = some z ∧ TyV G1 r (.agg #[x, y, z])) :
    DSt R G w (withRow G1 w1.heap.size r m) p1 (w1.alloc (.cells cs 48 (0, 0))) :=
  h.draw (h.rd.up (below_al (Below.refl _ _) _)) ((Turn.refl _ _).alloc _) (Ext.row G1 h.ty r m) (h.ty.row r m cs h.rd.size (block_lt h.rd.blk) hi)
theorem DSt.done (h : DSt R G w G1 p1 w1) {p c r : Nat} {x y z : Value} {fn : Func} {t : Nat} {tmps : Array Value} (hr : fn.results = #[.cell t 48])
    (ht : tmps.getD t undef = .pointer (some ⟨w.heap.size, 0, none⟩)) (hv : TyV G1 r (.agg #[x, y, z])) (hp : p ≤ p1 ∧ p1 ≤ p + c) :
    bodyPost Try.prog fn (DrawT R G p c r w) .ret ⟨tmps, []⟩ (((w1.setCell ⟨w.heap.size, 0, none⟩ x).setCell ⟨w.heap.size, 1, none⟩ y).setCell ⟨w.heap.size, 2, none⟩ z) := by
  have hne : ∀ q, G1 w.heap.size ≠ some q := fun q hq => (h.ext.new _ _ hq).elim (h.old q) (fun hn => by omega)
  have hgl := h.glt
  have t3 : Turn (· = w.heap.size) (· = w.heap.size) w1 (((w1.setCell ⟨w.heap.size, 0, none⟩ x).setCell ⟨w.heap.size, 1, none⟩ y).setCell ⟨w.heap.size, 2, none⟩ z) :=
    ((setCell_turn (F := (· = w.heap.size)) rfl x).trans (setCell_turn (F := (· = w.heap.size)) rfl y)).trans (setCell_turn (F := (· = w.heap.size)) rfl z)
  have hb : Below w.heap.size w1 (((w1.setCell ⟨w.heap.size, 0, none⟩ x).setCell ⟨w.heap.size, 1, none⟩ y).setCell ⟨w.heap.size, 2, none⟩ z) := t3.below (Nat.le_of_lt h.lt) (fun i e => by cases e; exact Nat.le_refl _)
  refine ret_task hr ht ((setCell_block (setCell_block (setCell_block h.res 0 x) 1 y) 2 z).trans rfl) ⟨p1, G1, _, rfl, hv, hp.1, hp.2, ?_, ?_, ?_, ?_⟩
  · exact h.rd.kept (hb.block _ hgl) (h.rd.below.trans (hb.mono h.bw)) (Nat.le_trans h.rd.size hb.size)
  · exact ⟨hb.os.trans h.turn.os, hb.tape.trans h.turn.tape, hb.output.trans h.turn.output, Nat.le_trans h.turn.size hb.size, fun i hi hF => (hb.block i hi).trans (h.turn.block i hi hF), h.turn.fresh⟩
  · exact ⟨h.ext.old, fun b q hq => (h.ext.new b q hq).imp id (fun hn => by omega)⟩
  · exact h.ty.turn t3 (fun b q hq e => by cases e; exact hne _ hq)
theorem DSt.done' {ob : Obj} (h : DSt R G w G1 p1 (w1.alloc ob)) (hl : w.heap.size < w1.heap.size) {p c r : Nat} {x y z : Value} {fn : Func} {t : Nat} {tmps : Array Value} (hr : fn.results = #[.cell t 48])
    (ht : tmps.getD t undef = .pointer (some ⟨w.heap.size, 0, none⟩)) (hv : TyV G1 r (.agg #[x, y, z])) (hp : p ≤ p1 ∧ p1 ≤ p + c) :
    bodyPost Try.prog fn (DrawT R G p c r w) .ret ⟨tmps, []⟩ ((((w1.setCell ⟨w.heap.size, 0, none⟩ x).setCell ⟨w.heap.size, 1, none⟩ y).setCell ⟨w.heap.size, 2, none⟩ z).alloc ob) := by
  have := h.done hr ht hv hp
  rwa [World.setCell_alloc_past _ _ _ _ hl, World.setCell_alloc_past _ _ _ _ (by simpa using hl), World.setCell_alloc_past _ _ _ _ (by simpa using hl)] at this
theorem row1 {G : Rows} {r : Nat} {a b c : Value} (h : TyV G r (.agg #[a, b, c])) : ∀ i, i < 1 → ∃ x y z, (#[a, b, c] : Array Value)[i * 3]? = some x ∧ (#[a, b, c] : Array Value)[i * 3 + 1]? = some y ∧ (#[a, b, c] : Array Value)[i * 3 + 2]? = some z ∧ TyV G r (.agg #[x, y, z]) := by
  intro i hi
  obtain rfl : i = 0 := by omega
  exact ⟨_, _, _, rfl, rfl, rfl, h⟩
theorem row2 {G : Rows} {r : Nat} {a b c a2 b2 c2 : Value} (h : TyV G r (.agg #[a, b, c])) (h2 : TyV G r (.agg #[a2, b2, c2])) : ∀ i, i < 2 → ∃ x y z, (#[a, b, c, a2, b2, c2] : Array Value)[i * 3]? = some x ∧ (#[a, b, c, a2, b2, c2] : Array Value)[i * 3 + 1]? = some y ∧ (#[a, b, c, a2, b2, c2] : Array Value)[i * 3 + 2]? = some z ∧ TyV G r (.agg #[x, y, z]) := by
  intro i hi
  rcases (show i = 0 ∨ i = 1 by omega) with rfl | rfl
  · exact ⟨_, _, _, rfl, rfl, rfl, h⟩
  · exact ⟨_, _, _, rfl, rfl, rfl, h2⟩
theorem row3 {G : Rows} {r : Nat} {a b c a2 b2 c2 a3 b3 c3 : Value} (h : TyV G r (.agg #[a, b, c])) (h2 : TyV G r (.agg #[a2, b2, c2])) (h3 : TyV G r (.agg #[a3, b3, c3])) : ∀ i, i < 3 → ∃ x y z, (#[a, b, c, a2, b2, c2, a3, b3, c3] : Array Value)[i * 3]? = some x ∧ (#[a, b, c, a2, b2, c2, a3, b3, c3] : Array Value)[i * 3 + 1]? = some y ∧ (#[a, b, c, a2, b2, c2, a3, b3, c3] : Array Value)[i * 3 + 2]? = some z ∧ TyV G r (.agg #[x, y, z]) := by
  intro i hi
  rcases (show i = 0 ∨ i = 1 ∨ i = 2 by omega) with rfl | rfl | rfl
  · exact ⟨_, _, _, rfl, rfl, rfl, h⟩
  · exact ⟨_, _, _, rfl, rfl, rfl, h2⟩
  · exact ⟨_, _, _, rfl, rfl, rfl, h3⟩
/-- the facts that the store of the result asks for -/
theorem DSt.cells (h : DSt R G w G1 p1 w1) : w1.cell? ⟨w.heap.size, 0, none⟩ = some (.int .i64 0) ∧ w1.cell? ⟨w.heap.size, 1, none⟩ = some (.int .i64 0) ∧ w1.cell? ⟨w.heap.size, 2, none⟩ = some (.slice none 0 0) ∧
    w1.frozen? ⟨w.heap.size, 0, none⟩ = false ∧ w1.frozen? ⟨w.heap.size, 1, none⟩ = false ∧ w1.frozen? ⟨w.heap.size, 2, none⟩ = false :=
  ⟨cellm h.res 0, cellm h.res 1, cellm h.res 2, frozenm h.res 0, frozenm h.res 1, frozenm h.res 2⟩
end
theorem ret_sheet {fn : Func} {t : Nat} {tmps : Array Value} {Q : Ending → World → Prop} {W : World} {m : Nat} {a b : Value} (hr : fn.results = #[.cell t 31])
    (ht : tmps.getD t undef = .pointer (some ⟨m, 0, none⟩)) (hW : W.heap[m]? = some (.cells #[a, b] 31 (0, 0))) (K : Q (.returned (.agg #[a, b])) W) : bodyPost Try.prog fn Q .ret ⟨tmps, []⟩ W := by
  have y0 : W.cell? ⟨m, 0, none⟩ = some a := cellm hW 0
  have y1 : W.cell? ⟨m, 1, none⟩ = some b := cellm hW 1
  refine bodyPost_ret (v := .agg #[a, b]) ?_ rfl K
  have ht' : tmps[t]?.getD undef = .pointer (some ⟨m, 0, none⟩) := by simpa using ht
  simp [results, hr, ht', go_sem, y0, y1]
end Go.Proofs.Ytpccgdkidnkppaa

set_option linter.unusedVariables false
set_option linter.unusedSimpArgs false
namespace Go.Proofs.Ytpccgdkidnkppaa
open Go Go.RowKit

set_option maxHeartbeats 1000000 in
theorem task_zero (R : RdEnv) (hR : R.Good) (G : Rows) (p : Nat) (hp : p + 3 ≤ 1000000) (below : Int) (w : World) (h : RdAt R p w) (hG : TyH R.g R.B G w) :
    Calls Try.prog 147 #[.pointer (some ⟨R.g, 0, none⟩), .int .i64 below, .int .i64 0] w (DrawT R G p 3 0 w) := by
  have hs := DSt.start h hG
  have h1 := pick_calls R hR p (by omega) 9 _ hs.rd
  replace h1 := Lib.hid h1
  replace hs := Lib.hid hs
  clear h hG
  go_enter Try.func147, Try.ntmps147
  go_wp2_with fail
  refine h1.out.mono ?_
  rintro e w1 ⟨k, rfl, hk0, hk1, hr, ht⟩
  have hk1 : k < 9 := by omega
  have hs1 := hs.out.step hr ht
  have h2 := pick_calls R hR (p + 1) (by omega) 97 w1 hr
  have h3 := l91Key_calls R hR (p + 1) (by omega) below w1 hr
  replace hs1 := Lib.hid hs1
  replace h2 := Lib.hid h2
  replace h3 := Lib.hid h3
  clear hs h1 hr ht
  by_cases c1 : k % 2 = 0 ∨ below = 0
  · have arm : ∀ (K : Prop), ((k % 2 == 0) = true → K) → ((k % 2 == 0) = false → (below == 0) = true → K) → K := by
      intro K a b
      by_cases c2 : k % 2 = 0
      · exact a (by simp [c2])
      · exact b (by simp [c2]) (by simp; omega)
    refine arm _ (fun e1 => ?_) (fun e1 e2 => ?_) <;>
    · go_wp2_with fail
      refine h2.out.mono ?_
      rintro e w2 ⟨n, rfl, _, _, hr2, ht2⟩
      have hs2 := hs1.out.step hr2 ht2
      obtain ⟨x0, x1, x2, f0, f1, f2⟩ := hs2.cells
      have z2 := hs2.lt
      replace hs2 := Lib.hid hs2
      clear h2 h3 hr2 ht2
      go_wp2_with fail
      exact hs2.out.done rfl rfl (tyv_leaf _ _ _ _ (by omega)) ⟨by omega, by omega⟩
  · have e1 : (k % 2 == 0) = false := by simp; omega
    have e2 : (below == 0) = false := by simp; omega
    go_wp2_with fail
    refine h3.out.mono ?_
    rintro e w2 ⟨p2, n, rfl, hp1, hp2, hr2, ht2⟩
    have hs2 := hs1.out.step hr2 ht2
    obtain ⟨x0, x1, x2, f0, f1, f2⟩ := hs2.cells
    have z2 := hs2.lt
    replace hs2 := Lib.hid hs2
    clear h2 h3 hr2 ht2
    go_wp2_with fail
    exact hs2.out.done rfl rfl (tyv_leaf _ _ _ _ (by omega)) ⟨by omega, by omega⟩

/-- draws of tasks, so deep -/
def TaskDraws (R : RdEnv) (D : Int) (c r : Nat) : Prop := ∀ (G : Rows) (p : Nat) (below : Int) (w : World), p + c ≤ 1000000 → RdAt R p w → TyH R.g R.B G w →
    Calls Try.prog 147 #[.pointer (some ⟨R.g, 0, none⟩), .int .i64 below, .int .i64 D] w (DrawT R G p c r w)

set_option maxHeartbeats 2000000 in
theorem task_succ (R : RdEnv) (hR : R.Good) (D : Int) (c r : Nat) (hD : 1 ≤ D) (hD3 : D ≤ 3) (hc : 3 ≤ c) (ih : TaskDraws R (D - 1) c r) : TaskDraws R D (3 * c + 3) (r + 1) := by
  intro G p below w hp h hG
  have hs := DSt.start h hG
  have h1 := pick_calls R hR p (by omega) 9 _ hs.rd
  have e0 : (D == 0) = false := by simp; omega
  replace h1 := Lib.hid h1
  replace hs := Lib.hid hs
  replace ih := Lib.hid ih
  clear h hG
  go_enter Try.func147, Try.ntmps147
  go_wp2_with fail
  refine h1.out.mono ?_
  rintro e w1 ⟨k, rfl, hk0, hk1, hr, ht⟩
  have hk1 : k < 9 := by omega
  have hs1 := hs.out.step hr ht
  replace hs1 := Lib.hid hs1
  clear hs h1 hr ht
  by_cases c1 : k < 3
  · have h2 := pick_calls R hR (p + 1) (by omega) 97 w1 hs1.out.rd
    have h3 := l91Key_calls R hR (p + 1) (by omega) below w1 hs1.out.rd
    replace h2 := Lib.hid h2
    replace h3 := Lib.hid h3
    by_cases c1 : k % 2 = 0 ∨ below = 0
    · have arm : ∀ (K : Prop), ((k % 2 == 0) = true → K) → ((k % 2 == 0) = false → (below == 0) = true → K) → K := by
        intro K a b
        by_cases c2 : k % 2 = 0
        · exact a (by simp [c2])
        · exact b (by simp [c2]) (by simp; omega)
      refine arm _ (fun e1 => ?_) (fun e1 e2 => ?_) <;>
      · go_wp2_with fail
        refine h2.out.mono ?_
        rintro e w2 ⟨n, rfl, _, _, hr2, ht2⟩
        have hs2 := hs1.out.step hr2 ht2
        obtain ⟨x0, x1, x2, f0, f1, f2⟩ := hs2.cells
        have z2 := hs2.lt
        replace hs2 := Lib.hid hs2
        clear h2 h3 hr2 ht2
        go_wp2_with fail
        exact hs2.out.done rfl rfl (tyv_leaf _ _ _ _ (by omega)) ⟨by omega, by omega⟩
    · have e1 : (k % 2 == 0) = false := by simp; omega
      have e2 : (below == 0) = false := by simp; omega
      go_wp2_with fail
      refine h3.out.mono ?_
      rintro e w2 ⟨p2, n, rfl, hp1, hp2, hr2, ht2⟩
      have hs2 := hs1.out.step hr2 ht2
      obtain ⟨x0, x1, x2, f0, f1, f2⟩ := hs2.cells
      have z2 := hs2.lt
      replace hs2 := Lib.hid hs2
      clear h2 h3 hr2 ht2
      go_wp2_with fail
      exact hs2.out.done rfl rfl (tyv_leaf _ _ _ _ (by omega)) ⟨by omega, by omega⟩
  by_cases c2 : k < 5
  · have hd1 := ih.out G (p + 1) below w1 (by omega) hs1.out.rd hs1.out.ty
    replace hd1 := Lib.hid hd1
    go_wp2_with fail
    refine hd1.out.mono ?_
    rintro e W1 ⟨q1, G1, v1, rfl, hv1, hq1, hQ1, hr1, ht1, he1, hy1⟩
    have hs2 := hs1.out.draw hr1 ht1 he1 hy1
    replace hs2 := Lib.hid hs2
    have hv1' := hv1
    obtain ⟨a1, b1, A1, m1, d1, rfl, _⟩ := hv1'
    clear hr1 ht1 hy1 hd1
    replace hv1 := Lib.hid hv1
    replace he1 := Lib.hid he1
    have hd2 := ih.out G1 (q1) below W1 (by omega) hs2.out.rd hs2.out.ty
    replace hd2 := Lib.hid hd2
    go_wp2_with fail
    refine hd2.out.mono ?_
    rintro e W2 ⟨q2, G2, v2, rfl, hv2, hq2, hQ2, hr2, ht2, he2, hy2⟩
    have hs3 := hs2.out.draw hr2 ht2 he2 hy2
    replace hs3 := Lib.hid hs3
    have hv2' := hv2
    obtain ⟨a2, b2, A2, m2, d2, rfl, _⟩ := hv2'
    clear hr2 ht2 hy2 hd2
    replace hv2 := Lib.hid hv2
    replace he2 := Lib.hid he2
    have hs' := hs3.out.row r 2 #[.int .i64 a1, .int .i64 b1, .slice A1 m1 d1, .int .i64 a2, .int .i64 b2, .slice A2 m2 d2] (row2 (hv1.out.ext he2.out (Nat.le_refl _)) hv2.out)
    obtain ⟨x0, x1, x2, f0, f1, f2⟩ := hs3.out.cells
    have z2 := hs3.out.lt
    replace hs' := Lib.hid hs'
    clear hs2 hs3 hv1 he1 hv2 he2 ih
    go_wp2_with fail
    exact hs'.out.done' z2 rfl rfl (tyv_row _ _ _ 2 2 _ (by omega) (by omega)) ⟨by omega, by omega⟩
  by_cases c3 : k = 5
  · subst c3
    have hd1 := ih.out G (p + 1) below w1 (by omega) hs1.out.rd hs1.out.ty
    replace hd1 := Lib.hid hd1
    go_wp2_with fail
    refine hd1.out.mono ?_
    rintro e W1 ⟨q1, G1, v1, rfl, hv1, hq1, hQ1, hr1, ht1, he1, hy1⟩
    have hs2 := hs1.out.draw hr1 ht1 he1 hy1
    replace hs2 := Lib.hid hs2
    have hv1' := hv1
    obtain ⟨a1, b1, A1, m1, d1, rfl, _⟩ := hv1'
    clear hr1 ht1 hy1 hd1
    replace hv1 := Lib.hid hv1
    replace he1 := Lib.hid he1
    have hd2 := ih.out G1 (q1) below W1 (by omega) hs2.out.rd hs2.out.ty
    replace hd2 := Lib.hid hd2
    go_wp2_with fail
    refine hd2.out.mono ?_
    rintro e W2 ⟨q2, G2, v2, rfl, hv2, hq2, hQ2, hr2, ht2, he2, hy2⟩
    have hs3 := hs2.out.draw hr2 ht2 he2 hy2
    replace hs3 := Lib.hid hs3
    have hv2' := hv2
    obtain ⟨a2, b2, A2, m2, d2, rfl, _⟩ := hv2'
    clear hr2 ht2 hy2 hd2
    replace hv2 := Lib.hid hv2
    replace he2 := Lib.hid he2
    have hs' := hs3.out.row r 2 #[.int .i64 a1, .int .i64 b1, .slice A1 m1 d1, .int .i64 a2, .int .i64 b2, .slice A2 m2 d2] (row2 (hv1.out.ext he2.out (Nat.le_refl _)) hv2.out)
    obtain ⟨x0, x1, x2, f0, f1, f2⟩ := hs3.out.cells
    have z2 := hs3.out.lt
    replace hs' := Lib.hid hs'
    clear hs2 hs3 hv1 he1 hv2 he2 ih
    go_wp2_with fail
    exact hs'.out.done' z2 rfl rfl (tyv_row _ _ _ 2 3 _ (by omega) (by omega)) ⟨by omega, by omega⟩
  have e3 : (k == 5) = false := by simp [c3]
  by_cases c4 : k < 8
  · have hd1 := ih.out G (p + 1) below w1 (by omega) hs1.out.rd hs1.out.ty
    replace hd1 := Lib.hid hd1
    go_wp2_with fail
    refine hd1.out.mono ?_
    rintro e W1 ⟨q1, G1, v1, rfl, hv1, hq1, hQ1, hr1, ht1, he1, hy1⟩
    have hs2 := hs1.out.draw hr1 ht1 he1 hy1
    replace hs2 := Lib.hid hs2
    have hv1' := hv1
    obtain ⟨a1, b1, A1, m1, d1, rfl, _⟩ := hv1'
    clear hr1 ht1 hy1 hd1
    replace hv1 := Lib.hid hv1
    replace he1 := Lib.hid he1
    have hd2 := ih.out G1 (q1) below W1 (by omega) hs2.out.rd hs2.out.ty
    replace hd2 := Lib.hid hd2
    go_wp2_with fail
    refine hd2.out.mono ?_
    rintro e W2 ⟨q2, G2, v2, rfl, hv2, hq2, hQ2, hr2, ht2, he2, hy2⟩
    have hs3 := hs2.out.draw hr2 ht2 he2 hy2
    have hsz2 := ht2.size
    replace hs3 := Lib.hid hs3
    have hv2' := hv2
    obtain ⟨a2, b2, A2, m2, d2, rfl, _⟩ := hv2'
    clear hr2 ht2 hy2 hd2
    replace hv2 := Lib.hid hv2
    replace he2 := Lib.hid he2
    have hd3 := ih.out G2 (q2) below W2 (by omega) hs3.out.rd hs3.out.ty
    replace hd3 := Lib.hid hd3
    go_wp2_with fail
    refine hd3.out.mono ?_
    rintro e W3 ⟨q3, G3, v3, rfl, hv3, hq3, hQ3, hr3, ht3, he3, hy3⟩
    have hs4 := hs3.out.draw hr3 ht3 he3 hy3
    replace hs4 := Lib.hid hs4
    have hv3' := hv3
    obtain ⟨a3, b3, A3, m3, d3, rfl, _⟩ := hv3'
    clear hr3 ht3 hy3 hd3
    replace hv3 := Lib.hid hv3
    replace he3 := Lib.hid he3
    have hr_le1 : W1.heap.size ≤ W2.heap.size := hsz2
    have hs' := hs4.out.row r 3 #[.int .i64 a1, .int .i64 b1, .slice A1 m1 d1, .int .i64 a2, .int .i64 b2, .slice A2 m2 d2, .int .i64 a3, .int .i64 b3, .slice A3 m3 d3] (row3 (hv1.out.ext (he2.out.trans he3.out (by have := hr_le1; omega)) (Nat.le_refl _)) (hv2.out.ext he3.out (Nat.le_refl _)) hv3.out)
    obtain ⟨x0, x1, x2, f0, f1, f2⟩ := hs4.out.cells
    have z2 := hs4.out.lt
    replace hs' := Lib.hid hs'
    clear hs2 hs3 hs4 hv1 he1 hv2 he2 hv3 he3 ih
    go_wp2_with fail
    exact hs'.out.done' z2 rfl rfl (tyv_row _ _ _ 3 4 _ (by omega) (by omega)) ⟨by omega, by omega⟩
  have hpk := pick_calls R hR (p + 1) (by omega) 3 w1 hs1.out.rd
  replace hpk := Lib.hid hpk
  go_wp2_with fail
  refine hpk.out.mono ?_
  rintro e w2 ⟨k2, rfl, hk2, _, hr2, ht2⟩
  have hs0 := hs1.out.step hr2 ht2
  replace hs0 := Lib.hid hs0
  clear hpk hr2 ht2 hs1
  by_cases c5 : 0 < k2
  · have hd1 := ih.out G (p + 1 + 1) below w2 (by omega) hs0.out.rd hs0.out.ty
    replace hd1 := Lib.hid hd1
    go_wp2_with fail
    refine hd1.out.mono ?_
    rintro e W1 ⟨q1, G1, v1, rfl, hv1, hq1, hQ1, hr1, ht1, he1, hy1⟩
    have hs2 := hs0.out.draw hr1 ht1 he1 hy1
    replace hs2 := Lib.hid hs2
    have hv1' := hv1
    obtain ⟨a1, b1, A1, m1, d1, rfl, _⟩ := hv1'
    clear hr1 ht1 hy1 hd1
    replace hv1 := Lib.hid hv1
    replace he1 := Lib.hid he1
    have hd2 := ih.out G1 (q1) below W1 (by omega) hs2.out.rd hs2.out.ty
    replace hd2 := Lib.hid hd2
    go_wp2_with fail
    refine hd2.out.mono ?_
    rintro e W2 ⟨q2, G2, v2, rfl, hv2, hq2, hQ2, hr2, ht2, he2, hy2⟩
    have hs3 := hs2.out.draw hr2 ht2 he2 hy2
    have hsz2 := ht2.size
    replace hs3 := Lib.hid hs3
    have hv2' := hv2
    obtain ⟨a2, b2, A2, m2, d2, rfl, _⟩ := hv2'
    clear hr2 ht2 hy2 hd2
    replace hv2 := Lib.hid hv2
    replace he2 := Lib.hid he2
    have hd3 := ih.out G2 (q2) below W2 (by omega) hs3.out.rd hs3.out.ty
    replace hd3 := Lib.hid hd3
    go_wp2_with fail
    refine hd3.out.mono ?_
    rintro e W3 ⟨q3, G3, v3, rfl, hv3, hq3, hQ3, hr3, ht3, he3, hy3⟩
    have hs4 := hs3.out.draw hr3 ht3 he3 hy3
    replace hs4 := Lib.hid hs4
    have hv3' := hv3
    obtain ⟨a3, b3, A3, m3, d3, rfl, _⟩ := hv3'
    clear hr3 ht3 hy3 hd3
    replace hv3 := Lib.hid hv3
    replace he3 := Lib.hid he3
    have hr_le1 : W1.heap.size ≤ W2.heap.size := hsz2
    have hs' := hs4.out.row r 3 #[.int .i64 a1, .int .i64 b1, .slice A1 m1 d1, .int .i64 a2, .int .i64 b2, .slice A2 m2 d2, .int .i64 a3, .int .i64 b3, .slice A3 m3 d3] (row3 (hv1.out.ext (he2.out.trans he3.out (by have := hr_le1; omega)) (Nat.le_refl _)) (hv2.out.ext he3.out (Nat.le_refl _)) hv3.out)
    obtain ⟨x0, x1, x2, f0, f1, f2⟩ := hs4.out.cells
    have z2 := hs4.out.lt
    replace hs' := Lib.hid hs'
    clear hs2 hs3 hs4 hv1 he1 hv2 he2 hv3 he3 ih
    go_wp2_with fail
    exact hs'.out.done' z2 rfl rfl (tyv_row _ _ _ 3 4 _ (by omega) (by omega)) ⟨by omega, by omega⟩
  · have hpk := pick_calls R hR (p + 1 + 1) (by omega) 10 w2 hs0.out.rd
    replace hpk := Lib.hid hpk
    go_wp2_with fail
    refine hpk.out.mono ?_
    rintro e w3 ⟨k3, rfl, hk3, _, hr2, ht2⟩
    have hs1 := hs0.out.step hr2 ht2
    replace hs1 := Lib.hid hs1
    clear hpk hr2 ht2 hs0
    have hd1 := ih.out G (p + 1 + 1 + 1) below w3 (by omega) hs1.out.rd hs1.out.ty
    replace hd1 := Lib.hid hd1
    go_wp2_with fail
    refine hd1.out.mono ?_
    rintro e W1 ⟨q1, G1, v1, rfl, hv1, hq1, hQ1, hr1, ht1, he1, hy1⟩
    have hs2 := hs1.out.draw hr1 ht1 he1 hy1
    replace hs2 := Lib.hid hs2
    have hv1' := hv1
    obtain ⟨a1, b1, A1, m1, d1, rfl, _⟩ := hv1'
    clear hr1 ht1 hy1 hd1
    replace hv1 := Lib.hid hv1
    replace he1 := Lib.hid he1
    have hs' := hs2.out.row r 1 #[.int .i64 a1, .int .i64 b1, .slice A1 m1 d1] (row1 hv1.out)
    obtain ⟨x0, x1, x2, f0, f1, f2⟩ := hs2.out.cells
    have z2 := hs2.out.lt
    replace hs' := Lib.hid hs'
    clear hs2 hv1 he1 ih
    go_wp2_with fail
    exact hs'.out.done' z2 rfl rfl (tyv_row _ _ _ 1 5 _ (by omega) (by omega)) ⟨by omega, by omega⟩
end Go.Proofs.Ytpccgdkidnkppaa

set_option linter.unusedVariables false
set_option linter.unusedSimpArgs false
namespace Go.Proofs.Ytpccgdkidnkppaa
open Go Go.RowKit

def dom (G : Rows) (b : Nat) : Prop := ∃ x, G b = some x
theorem TyH.put {g B : Nat} {G : Rows} {w : World} (h : TyH g B G w) {b r m i : Nat} {x y z : Value} (hb : G b = some (r, m)) (hi : i < m) (hv : TyV G r (.agg #[x, y, z])) :
    TyH g B G (((w.setCell ⟨b, i * 3, none⟩ x).setCell ⟨b, i * 3 + 1, none⟩ y).setCell ⟨b, i * 3 + 2, none⟩ z) := by
  intro b' r' m' hb'
  obtain ⟨h1, h2, cs, h3, h4⟩ := h b' r' m' hb'
  by_cases e : b' = b
  · subst e
    rw [hb] at hb'; cases hb'
    refine ⟨h1, h2, _, setCell_block (setCell_block (setCell_block h3 _ x) _ y) _ z, fun j hj => ?_⟩
    by_cases e : j = i
    · subst e
      obtain ⟨a, b, c, k1, k2, k3, _⟩ := h4 j hi
      have l1 := (Array.getElem?_eq_some_iff.1 k1).1
      have l2 := (Array.getElem?_eq_some_iff.1 k2).1
      have l3 := (Array.getElem?_eq_some_iff.1 k3).1
      exact ⟨x, y, z, by simp [Array.getElem?_setIfInBounds, l1], by simp [Array.getElem?_setIfInBounds, l2], by simp [Array.getElem?_setIfInBounds, l3], hv⟩
    · obtain ⟨a, b, c, k1, k2, k3, k4⟩ := h4 j hj
      refine ⟨a, b, c, ?_, ?_, ?_, k4⟩
      · rw [Array.getElem?_setIfInBounds_ne (by omega), Array.getElem?_setIfInBounds_ne (by omega), Array.getElem?_setIfInBounds_ne (by omega)]; exact k1
      · rw [Array.getElem?_setIfInBounds_ne (by omega), Array.getElem?_setIfInBounds_ne (by omega), Array.getElem?_setIfInBounds_ne (by omega)]; exact k2
      · rw [Array.getElem?_setIfInBounds_ne (by omega), Array.getElem?_setIfInBounds_ne (by omega), Array.getElem?_setIfInBounds_ne (by omega)]; exact k3
  · exact ⟨h1, h2, cs, (setCell_far e).trans ((setCell_far e).trans ((setCell_far e).trans h3)), h4⟩

/-- the worlds in a run of l91Lower: the task's box and the result's block are the next ones -/
structure LSt (g B : Nat) (G : Rows) (w : World) (a b c : Value) (wr : World) : Prop where
  ty : TyH g B G wr
  turn : Turn (dom G) (dom G) w wr
  box : wr.heap[w.heap.size]? = some (.cells #[a, b, c] 48 (0, 0))
  res : wr.heap[w.heap.size + 1]? = some (.cells #[.int .i64 0, .int .i64 0, .slice none 0 0] 48 (0, 0))
  old : ∀ i, dom G i → i < w.heap.size
section
variable {g B : Nat} {G : Rows} {w w1 w2 : World} {a b c : Value}
theorem LSt.start (h : TyH g B G w) (a b c : Value) : LSt g B G w a b c ((w.alloc (.cells #[a, b, c] 48 (0, 0))).alloc (.cells #[.int .i64 0, .int .i64 0, .slice none 0 0] 48 (0, 0))) :=
  ⟨(h.alloc _).alloc _, ((Turn.refl _ _).alloc _).alloc _, (heap_old (by simp)).trans (heap_new rfl), heap_new (by simp), fun i ⟨x, hx⟩ => h.lt hx⟩
theorem LSt.step (h : LSt g B G w a b c w1) (ty : TyH g B G w2) (t : Turn (dom G) (dom G) w1 w2) : LSt g B G w a b c w2 :=
  ⟨ty, h.turn.trans t, (t.block _ (block_lt h.box) (fun hd => by have := h.old _ hd; omega)).trans h.box, (t.block _ (block_lt h.res) (fun hd => by have := h.old _ hd; omega)).trans h.res, h.old⟩
theorem LSt.drew (h : LSt g B G w a b c w1) : LSt g B G w a b c w1.drew := h.step h.ty ((Turn.refl _ _).drew)
theorem LSt.put (h : LSt g B G w a b c w1) {p r m i : Nat} {x y z : Value} (hb : G p = some (r, m)) (hi : i < m) (hv : TyV G r (.agg #[x, y, z])) :
    LSt g B G w a b c (((w1.setCell ⟨p, i * 3, none⟩ x).setCell ⟨p, i * 3 + 1, none⟩ y).setCell ⟨p, i * 3 + 2, none⟩ z) :=
  h.step (h.ty.put hb hi hv) (((setCell_turn (F := dom G) ⟨_, hb⟩ x).trans (setCell_turn (F := dom G) ⟨_, hb⟩ y)).trans (setCell_turn (F := dom G) ⟨_, hb⟩ z))
theorem LSt.cells (h : LSt g B G w a b c w1) : w1.cell? ⟨w.heap.size, 0, none⟩ = some a ∧ w1.cell? ⟨w.heap.size, 1, none⟩ = some b ∧ w1.cell? ⟨w.heap.size, 2, none⟩ = some c ∧
    w1.cell? ⟨w.heap.size + 1, 0, none⟩ = some (.int .i64 0) ∧ w1.cell? ⟨w.heap.size + 1, 1, none⟩ = some (.int .i64 0) ∧ w1.cell? ⟨w.heap.size + 1, 2, none⟩ = some (.slice none 0 0) ∧
    w1.frozen? ⟨w.heap.size + 1, 0, none⟩ = false ∧ w1.frozen? ⟨w.heap.size + 1, 1, none⟩ = false ∧ w1.frozen? ⟨w.heap.size + 1, 2, none⟩ = false ∧ w.heap.size + 1 < w1.heap.size :=
  ⟨cellm h.box 0, cellm h.box 1, cellm h.box 2, cellm h.res 0, cellm h.res 1, cellm h.res 2, frozenm h.res 0, frozenm h.res 1, frozenm h.res 2, block_lt h.res⟩
/-- what a run of l91Lower brings -/
def Lowers (g B : Nat) (G : Rows) (r : Nat) (w : World) (e : Ending) (w' : World) : Prop := ∃ v', e = .returned v' ∧ TyV G r v' ∧ TyH g B G w' ∧ Turn (dom G) (dom G) w w'
theorem LSt.done (h : LSt g B G w a b c w1) {r : Nat} {x y z : Value} {fn : Func} {t : Nat} {tmps : Array Value} (hr : fn.results = #[.cell t 48])
    (ht : tmps.getD t undef = .pointer (some ⟨w.heap.size + 1, 0, none⟩)) (hv : TyV G r (.agg #[x, y, z])) :
    bodyPost Try.prog fn (Lowers g B G r w) .ret ⟨tmps, []⟩ (((w1.setCell ⟨w.heap.size + 1, 0, none⟩ x).setCell ⟨w.heap.size + 1, 1, none⟩ y).setCell ⟨w.heap.size + 1, 2, none⟩ z) := by
  have t3 : Turn (· = w.heap.size + 1) (· = w.heap.size + 1) w1 (((w1.setCell ⟨w.heap.size + 1, 0, none⟩ x).setCell ⟨w.heap.size + 1, 1, none⟩ y).setCell ⟨w.heap.size + 1, 2, none⟩ z) :=
    ((setCell_turn (F := (· = w.heap.size + 1)) rfl x).trans (setCell_turn (F := (· = w.heap.size + 1)) rfl y)).trans (setCell_turn (F := (· = w.heap.size + 1)) rfl z)
  refine ret_task hr ht ((setCell_block (setCell_block (setCell_block h.res 0 x) 1 y) 2 z).trans rfl) ⟨_, rfl, hv, h.ty.turn t3 (fun b q hq e => ?_), ?_⟩
  · cases e; have := h.old _ ⟨_, hq⟩; omega
  · exact ⟨t3.os.trans h.turn.os, t3.tape.trans h.turn.tape, t3.output.trans h.turn.output, Nat.le_trans h.turn.size t3.size, fun i hi hF => (t3.block i (Nat.lt_of_lt_of_le hi h.turn.size) (by intro e; omega)).trans (h.turn.block i hi hF), h.turn.fresh⟩
end

set_option maxHeartbeats 2000000 in
theorem l91Lower_calls (g B : Nat) (G : Rows) (k : Int) : ∀ (r : Nat) (v : Value) (w : World), TyV G r v → TyH g B G w →
    Calls Try.prog 116 #[v, .int .i64 k] w (Lowers g B G r w) := by
  intro r
  induction r using Nat.strongRecOn with
  | ind r ih =>
  intro v w hv h
  have hv' := hv
  obtain ⟨kd, n, A, m, c, rfl, hm3, hmc, hcm, hk5, hrow⟩ := hv'
  have hs := LSt.start h (.int .i64 kd) (.int .i64 n) (.slice A m c)
  unfold maxLen at hcm
  replace ih := Lib.hid ih
  replace hs := Lib.hid hs
  replace hv := Lib.hid hv
  clear h
  by_cases e5 : kd = 5
  · subst e5
    have hm1 := hk5 rfl
    obtain ⟨b, r', rfl, hG, hr'⟩ := hrow.resolve_left (by omega)
    obtain ⟨_, _, cs, hb, hi⟩ := hs.out.ty b r' m hG
    obtain ⟨x, y, z, c0, c1, c2, hx⟩ := hi 0 (by omega)
    have hcall := ih.out r' hr' _ _ hx hs.out.ty
    have hx' := hx
    obtain ⟨xk, xn, xA, xm, xc, ex, _⟩ := hx'
    simp only [Value.agg.injEq, Array.mk.injEq, List.cons.injEq, and_true] at ex
    obtain ⟨rfl, rfl, rfl⟩ := ex
    have y0 := (cellm hb 0).trans c0
    have y1 := (cellm hb 1).trans c1
    have y2 := (cellm hb 2).trans c2
    have hbl := hs.out.old _ ⟨_, hG⟩
    rw [cell_al (by simp; omega), cell_al hbl] at y0 y1 y2
    replace hcall := Lib.hid hcall
    replace hG := Lib.hid hG
    clear hb hi hx c0 c1 c2
    go_enter Try.func116, Try.ntmps116
    go_wp2_with fail
    refine hcall.out.mono ?_
    rintro e w1 ⟨v', rfl, hv1, hy1, ht1⟩
    have hs1 := hs.out.step hy1 ht1
    have hv2 := hv1.ext (Ext.refl G 0) (Nat.le_of_lt hr')
    obtain ⟨xk, xn, xA, xm, xc, rfl, _⟩ := hv1
    obtain ⟨-, -, -, x0, x1, x2, f0, f1, f2, z1⟩ := hs1.cells
    replace hs1 := Lib.hid hs1
    replace hv2 := Lib.hid hv2
    clear hcall hs hv hrow y0 y1 y2 hy1 ht1
    go_wp2_with fail
    exact hs1.out.done rfl rfl hv2.out
  · have e1 : (kd == 5) = false := by simp [e5]
    go_enter Try.func116, Try.ntmps116
    go_wp2_with fail
    go_loopw [5] (fun i wr => ∃ (j : Nat), j ≤ m ∧ i = .int .i64 j ∧ Hid (LSt g B G w (.int .i64 kd) (.int .i64 n) (.slice A m c) wr)) (fun i _ => m - (intOf i).toNat)
    case atStart => exact ⟨0, Nat.zero_le _, rfl, hs⟩
    case round =>
      obtain ⟨j, hj, rfl, hL⟩ := hrel
      obtain ⟨b0, b1, b2, x0, x1, x2, f0, f1, f2, z1⟩ := hL.out.cells
      by_cases hlt : j < m
      · obtain ⟨b, r', rfl, hG, hr'⟩ := hrow.resolve_left (by omega)
        obtain ⟨_, _, cs, hb, hi⟩ := hL.out.ty b r' m hG
        obtain ⟨x, y, z, c0, c1, c2, hx⟩ := hi j hlt
        have hx' := hx
        obtain ⟨xk, xn, xA, xm, xc, ex, _⟩ := hx'
        simp only [Value.agg.injEq, Array.mk.injEq, List.cons.injEq, and_true] at ex
        obtain ⟨rfl, rfl, rfl⟩ := ex
        have hcall := ih.out r' hr' _ _ hx hL.out.drew.ty
        have y0 := (cellm hb (j * 3)).trans c0
        have y1 := (cellm hb (j * 3 + 1)).trans c1
        have y2 := (cellm hb (j * 3 + 2)).trans c2
        have hbl := block_lt hb
        replace hcall := Lib.hid hcall
        replace hG := Lib.hid hG
        clear hb hi hx c0 c1 c2
        go_wp2_with fail
        go_region_law (go_simp; go_at_call 116; refine hcall.out.mono ?_; rintro e w2 ⟨v', rfl, hv1, hy1, ht1⟩; have hL2 := hL.out.drew.step hy1 ht1; have b2' := hL2.cells.2.2.1; have hst := fun x y z hv => hL2.put (i := j) (x := x) (y := y) (z := z) hG.out hlt hv; obtain ⟨_, _, cs2, hb2, hi2⟩ := hy1 b r' m hG.out; obtain ⟨x', y', z', c0, c1, c2, _⟩ := hi2 j hlt; have g0 := (cellm hb2 (j * 3)).trans c0; have g1 := (cellm hb2 (j * 3 + 1)).trans c1; have g2 := (cellm hb2 (j * 3 + 2)).trans c2; have k0 := frozenm hb2 (j * 3); have k1 := frozenm hb2 (j * 3 + 1); have k2 := frozenm hb2 (j * 3 + 2); have hv2 := hv1; obtain ⟨nk, nn, nA, nm, nc, rfl, _⟩ := hv2; have hst2 := hst _ _ _ hv1; replace hst2 := Lib.hid hst2; clear hst hL2 hb2 hi2 c0 c1 c2 hv1 hy1 ht1 y0 y1 y2)
        all_goals
          go_wp2_with fail
          go_roundw
          case rel => exact ⟨j + 1, by omega, by go_num, hst2⟩
          case measure => simp [intOf]; omega
      · have ej : j = m := by omega
        subst ej
        go_wp2_with fail
        exact hL.out.done rfl rfl hv.out
end Go.Proofs.Ytpccgdkidnkppaa

set_option linter.unusedVariables false
set_option linter.unusedSimpArgs false
namespace Go.Proofs.Ytpccgdkidnkppaa
open Go Go.RowKit

theorem l6In_calls (n lo hi : Int) (w : World) : Calls Try.prog 108 #[.int .i64 n, .int .i64 lo, .int .i64 hi] w fun e w' => e = .returned (.bool (decide (lo ≤ n ∧ n ≤ hi))) ∧ w = w' := by
  by_cases h : lo ≤ n <;>
  · go_enter Try.func108, Try.ntmps108
    go_wp2
    go_ret
    refine ⟨?_, rfl⟩
    by_cases h2 : n ≤ hi <;> simp [h, h2] <;> omega

def shape (k : Int) : Int × Int × Bool :=
  if k = 0 then (0, 96, true) else if k = 1 then (0, 9, true) else if k = 2 ∨ k = 3 then (2, 0, true) else if k = 4 then (3, 0, true) else if k = 5 then (1, 9, true) else (0, 0, false)
theorem shape_fits (k n : Int) (len : Nat) : fitsN k n len = ((shape k).2.2 && decide ((len : Int) = (shape k).1) && decide (0 ≤ n ∧ n ≤ (shape k).2.1)) := by
  rw [Bool.eq_iff_iff]
  unfold fitsN shape
  split
  · simp; omega
  split
  · simp; omega
  split
  · simp; omega
  split
  · simp; omega
  split
  · simp; omega
  · simp

set_option maxHeartbeats 1000000 in
theorem l1Shape_calls (k : Int) (w : World) : Calls Try.prog 164 #[.int .i64 k] w fun e w' => e = .returned (.tuple #[.int .i64 (shape k).1, .int .i64 (shape k).2.1, .bool (shape k).2.2]) ∧ w = w' := by
  by_cases k0 : k = 0
  · subst k0
    go_enter Try.func164, Try.ntmps164
    go_wp2
    go_ret3
    exact ⟨rfl, rfl⟩
  by_cases k1 : k = 1
  · subst k1
    go_enter Try.func164, Try.ntmps164
    go_wp2
    go_ret3
    exact ⟨rfl, rfl⟩
  by_cases k2 : k = 2
  · subst k2
    go_enter Try.func164, Try.ntmps164
    go_wp2
    go_ret3
    exact ⟨rfl, rfl⟩
  by_cases k3 : k = 3
  · subst k3
    go_enter Try.func164, Try.ntmps164
    go_wp2
    go_ret3
    exact ⟨rfl, rfl⟩
  by_cases k4 : k = 4
  · subst k4
    go_enter Try.func164, Try.ntmps164
    go_wp2
    go_ret3
    exact ⟨rfl, rfl⟩
  by_cases k5 : k = 5
  · subst k5
    go_enter Try.func164, Try.ntmps164
    go_wp2
    go_ret3
    exact ⟨rfl, rfl⟩
  have hr : shape k = (0, 0, false) := by simp [shape, *]
  have e0 : (k == 0) = false := by simp [k0]
  have e1 : (k == 1) = false := by simp [k1]
  have e2 : (k == 2) = false := by simp [k2]
  have e3 : (k == 3) = false := by simp [k3]
  have e4 : (k == 4) = false := by simp [k4]
  have e5 : (k == 5) = false := by simp [k5]
  replace hr := Lib.hid hr
  clear k0 k1 k2 k3 k4 k5
  go_enter Try.func164, Try.ntmps164
  go_wp2
  go_ret3
  exact ⟨by rw [hr.out]; rfl, rfl⟩

set_option maxHeartbeats 1000000 in
theorem l1Fit_calls : ∀ (t : Task) (A : Option Addr) (c B : Nat) (w0 w : World), Below B w0 w → B ≤ w.heap.size → t.parts.length ≤ c → c ≤ maxLen → PartsIs B w0 A 0 t.parts →
    Calls Try.prog 158 #[.agg #[.int .i64 t.kind, .int .i64 t.n, .slice A t.parts.length c]] w fun e w' => e = .returned (.bool (fitAll t)) ∧ Below w.heap.size w w' := by
  refine Task.ind ?_
  intro k n ps ih A c B w0 w hb hB hc hm hp
  simp only [Task.kind, Task.n, Task.parts] at hc hp ⊢
  unfold maxLen at hm
  have hsh := l1Shape_calls k
  have hfit := shape_fits k n ps.length
  have hall : fitAll (.mk k n ps) = (fitsN k n ps.length && fitAllL ps) := by rw [fitAll]
  rw [hfit] at hall
  generalize shape k = sh at *
  obtain ⟨q, top, ok⟩ := sh
  simp only at hsh hall
  replace hsh := Lib.hid hsh
  replace ih := Lib.hid ih
  replace hb := Lib.hid hb
  replace hp := Lib.hid hp
  clear hfit
  cases ok with
  | false =>
    replace hall := Lib.hid hall
    go_enter Try.func158, Try.ntmps158
    go_wp2_with fail
    refine (hsh.out _).mono ?_
    rintro e w1 ⟨rfl, rfl⟩
    go_wp2_with fail
    go_ret
    exact ⟨by rw [hall.out]; rfl, below_al (Below.refl _ _) _⟩
  | true =>
    by_cases hq : (ps.length : Int) = q
    case neg =>
      have hq' : ((ps.length : Int) != q) = true := by simp [hq]
      have hall2 : fitAll (.mk k n ps) = false := by rw [hall]; simp [hq]
      replace hall2 := Lib.hid hall2
      clear hall
      replace hq := Lib.hid hq
      go_enter Try.func158, Try.ntmps158
      go_wp2_with fail
      refine (hsh.out _).mono ?_
      rintro e w1 ⟨rfl, rfl⟩
      go_wp2_with fail
      go_ret
      exact ⟨by rw [hall2.out]; rfl, below_al (Below.refl _ _) _⟩
    have hq' : ((ps.length : Int) != q) = false := by simp [hq]
    have hin := l6In_calls n 0 top
    by_cases hn : 0 ≤ n ∧ n ≤ top
    case neg =>
      have hall2 : fitAll (.mk k n ps) = false := by rw [hall]; simp [hn]
      have hd : decide (0 ≤ n ∧ n ≤ top) = false := by simp [hn]
      rw [hd] at hin
      replace hin := Lib.hid hin
      replace hall2 := Lib.hid hall2
      clear hall hd hn
      replace hq := Lib.hid hq
      go_enter Try.func158, Try.ntmps158
      go_wp2_with fail
      refine (hsh.out _).mono ?_
      rintro e w1 ⟨rfl, rfl⟩
      go_wp2_with fail
      refine (hin.out _).mono ?_
      rintro e w1 ⟨rfl, rfl⟩
      go_wp2_with fail
      go_ret
      exact ⟨by rw [hall2.out]; rfl, below_al (Below.refl _ _) _⟩
    have hd : decide (0 ≤ n ∧ n ≤ top) = true := by simp [hn]
    rw [hd] at hin
    have hall2 : fitAll (.mk k n ps) = fitAllL ps := by rw [hall]; simp [hn, hq]
    replace hin := Lib.hid hin
    replace hall2 := Lib.hid hall2
    clear hall hd hn
    replace hq := Lib.hid hq
    go_enter Try.func158, Try.ntmps158
    go_wp2_with fail
    refine (hsh.out _).mono ?_
    rintro e w1 ⟨rfl, rfl⟩
    go_wp2_with fail
    refine (hin.out _).mono ?_
    rintro e w1 ⟨rfl, rfl⟩
    go_wp2_with fail
    go_loopw [6] (fun i wr => ∃ (j : Nat), j ≤ ps.length ∧ i = .int .i64 j ∧ w.heap.size < wr.heap.size ∧ wr.cell? ⟨w.heap.size, 2, none⟩ = some (.slice A ps.length c) ∧ Hid (Below w.heap.size w wr) ∧ Hid (fitAllL ps = fitAllL (ps.drop j))) (fun i _ => ps.length - (intOf i).toNat)
    case atStart => exact ⟨0, Nat.zero_le _, rfl, by simp, by simp, Lib.hid (below_al (Below.refl _ _) _), Lib.hid rfl⟩
    case round =>
      obtain ⟨j, hj, rfl, hz, hbox, hw, he⟩ := hrel
      by_cases hlt : j < ps.length
      · obtain ⟨b, o, A', c', rfl, hbl, y0, y1, y2, hc', hm', hp'⟩ := hp.out.at (below_up' hb.out hB hw.out) j hlt
        have hbl' : b < wr.heap.size := by have := hw.out.size; omega
        have he2 := he.out
        rw [List.drop_eq_getElem_cons hlt, fitAllL] at he2
        have hcall := ih.out ps[j] (List.getElem_mem _) A' c' B w0 wr (below_up' hb.out hB hw.out) (by have := hw.out.size; omega) hc' hm' hp'
        replace hcall := Lib.hid hcall
        clear he
        cases hv : fitAll ps[j] with
        | false =>
          rw [hv] at he2 hcall
          replace he2 := Lib.hid he2
          clear hv
          go_wp2_with fail
          refine hcall.out.mono ?_
          rintro e w2 ⟨rfl, h5⟩
          replace h5 := Lib.hid h5
          go_wp2_with fail
          go_ret
          exact ⟨by rw [hall2.out, he2.out]; rfl, below_up hw.out h5.out⟩
        | true =>
          rw [hv, Bool.true_and] at he2
          rw [hv] at hcall
          replace he2 := Lib.hid he2
          clear hv
          go_wp2_with fail
          refine hcall.out.mono ?_
          rintro e w2 ⟨rfl, h5⟩
          have z0 := kept_cell h5 hz hbox
          have hz2 : w.heap.size < w2.heap.size := by have := h5.size; omega
          replace h5 := Lib.hid h5
          clear hbox y0 y1 y2
          go_wp2_with fail
          go_roundw
          case rel => exact ⟨j + 1, by omega, by go_num, hz2, z0, Lib.hid (below_up hw.out h5.out), he2⟩
          case measure => simp [intOf]; omega
      · have he2 := he.out
        rw [List.drop_eq_nil_of_le (by omega), fitAllL] at he2
        replace he2 := Lib.hid he2
        clear he
        go_wp2_with fail
        go_ret
        exact ⟨by rw [hall2.out, he2.out]; rfl, hw.out⟩

theorem nodesL_get : ∀ {ps : List Task} {i : Nat} (h : i < ps.length), nodesL (ps.drop i) = nodes ps[i] + nodesL (ps.drop (i + 1)) := by
  intro ps i h
  rw [List.drop_eq_getElem_cons h, nodesL]

set_option maxHeartbeats 1000000 in
theorem l1Nodes_calls : ∀ (t : Task) (A : Option Addr) (c B : Nat) (w0 w : World), nodes t ≤ 1000000000 → Below B w0 w → B ≤ w.heap.size → t.parts.length ≤ c → c ≤ maxLen → PartsIs B w0 A 0 t.parts →
    Calls Try.prog 159 #[.agg #[.int .i64 t.kind, .int .i64 t.n, .slice A t.parts.length c]] w fun e w' => e = .returned (.int .i64 (nodes t)) ∧ Below w.heap.size w w' := by
  refine Task.ind ?_
  intro k n ps ih A c B w0 w hnb hb hB hc hm hp
  simp only [Task.kind, Task.n, Task.parts] at hc hp ⊢
  unfold maxLen at hm
  have hall : nodes (.mk k n ps) = 1 + nodesL ps := by rw [nodes]
  rw [hall] at hnb
  replace ih := Lib.hid ih
  replace hb := Lib.hid hb
  replace hp := Lib.hid hp
  replace hall := Lib.hid hall
  replace hnb := Lib.hid hnb
  go_enter Try.func159, Try.ntmps159
  go_wp2_with fail
  go_loopw [3, 4] (fun m i wr => ∃ (j : Nat) (x : Int), j ≤ ps.length ∧ i = .int .i64 j ∧ m = .int .i64 x ∧ 1 ≤ x ∧ x ≤ 1000000000 ∧ w.heap.size < wr.heap.size ∧ wr.cell? ⟨w.heap.size, 2, none⟩ = some (.slice A ps.length c) ∧ Hid (Below w.heap.size w wr) ∧ Hid (1 + nodesL ps = x + nodesL (ps.drop j))) (fun _ i _ => ps.length - (intOf i).toNat)
  case atStart => exact ⟨0, 1, Nat.zero_le _, rfl, rfl, by omega, by omega, by simp, by simp, Lib.hid (below_al (Below.refl _ _) _), Lib.hid rfl⟩
  case round =>
    obtain ⟨j, x, hj, rfl, rfl, hx1, hx2, hz, hbox, hw, he⟩ := hrel
    by_cases hlt : j < ps.length
    · obtain ⟨b, o, A', c', rfl, hbl, y0, y1, y2, hc', hm', hp'⟩ := hp.out.at (below_up' hb.out hB hw.out) j hlt
      have hbl' : b < wr.heap.size := by have := hw.out.size; omega
      have he2 := he.out
      rw [nodesL_get hlt] at he2
      have hn1 := nodes_pos ps[j]
      have hn2 := nodesL_pos (ps.drop (j + 1))
      have hnb2 := hnb.out
      have hcall := ih.out ps[j] (List.getElem_mem _) A' c' B w0 wr (by omega) (below_up' hb.out hB hw.out) (by have := hw.out.size; omega) hc' hm' hp'
      have hsum : x + nodes ps[j] ≤ 1000000000 := by omega
      generalize nodes ps[j] = y at *
      replace hcall := Lib.hid hcall
      replace he2 := Lib.hid he2
      clear he hn2 hnb2
      go_wp2_with fail
      refine hcall.out.mono ?_
      rintro e w2 ⟨rfl, h5⟩
      have z0 := kept_cell h5 hz hbox
      have hz2 : w.heap.size < w2.heap.size := by have := h5.size; omega
      replace h5 := Lib.hid h5
      clear hbox y0 y1 y2
      go_wp2_with fail
      go_roundw
      case rel => exact ⟨j + 1, x + y, by omega, by go_num, rfl, by omega, by omega, hz2, z0, Lib.hid (below_up hw.out h5.out), Lib.hid (by have := he2.out; omega)⟩
      case measure => simp [intOf]; omega
    · have he2 := he.out
      rw [List.drop_eq_nil_of_le (by omega), nodesL] at he2
      replace he2 := Lib.hid he2
      clear he
      go_wp2_with fail
      go_ret
      exact ⟨by rw [hall.out, he2.out]; simp, hw.out⟩

set_option maxHeartbeats 1000000 in
theorem specTaskOk_calls (t : Task) (A : Option Addr) (c B : Nat) (w0 w : World) (hn : nodes t ≤ 1000000000) (hb : Below B w0 w) (hB : B ≤ w.heap.size) (hc : t.parts.length ≤ c) (hm : c ≤ maxLen) (hp : PartsIs B w0 A 0 t.parts) :
    Calls Try.prog 145 #[.agg #[.int .i64 t.kind, .int .i64 t.n, .slice A t.parts.length c]] w fun e w' => e = .returned (.bool (okT t)) ∧ Below w.heap.size w w' := by
  have h1 := fun w1 (hw : Below w.heap.size w w1) => l1Fit_calls t A c B w0 w1 (below_up' hb hB hw) (Nat.le_trans hB hw.size) hc hm hp
  have h2 := fun w1 (hw : Below w.heap.size w w1) => l1Nodes_calls t A c B w0 w1 hn (below_up' hb hB hw) (Nat.le_trans hB hw.size) hc hm hp
  have hr : okT t = (fitAll t && decide (nodes t ≤ 15)) := rfl
  generalize nodes t = m at *
  cases hf : fitAll t with
  | false =>
    rw [hf] at h1 hr
    replace h1 := Lib.hid h1
    replace hr := Lib.hid hr
    clear hb hp h2 hf hn
    go_enter Try.func145, Try.ntmps145
    go_wp2_with fail
    refine (h1.out _ (below_al (Below.refl _ _) _)).mono ?_
    rintro e w1 ⟨rfl, h3⟩
    replace h3 := Lib.hid h3
    go_wp2_with fail
    go_ret
    exact ⟨by rw [hr.out]; rfl, below_from h3.out⟩
  | true =>
    rw [hf, Bool.true_and] at hr
    rw [hf] at h1
    replace h1 := Lib.hid h1
    replace h2 := Lib.hid h2
    replace hr := Lib.hid hr
    clear hb hp hf hn
    go_enter Try.func145, Try.ntmps145
    go_wp2_with fail
    refine (h1.out _ (below_al (Below.refl _ _) _)).mono ?_
    rintro e w1 ⟨rfl, h3⟩
    have x0 : w1.cell? ⟨w.heap.size, 0, none⟩ = some (.int .i64 t.kind) := (h3.cell (p := ⟨w.heap.size, 0, none⟩) (by simp)).trans (by simp)
    have x1 : w1.cell? ⟨w.heap.size, 1, none⟩ = some (.int .i64 t.n) := (h3.cell (p := ⟨w.heap.size, 1, none⟩) (by simp)).trans (by simp)
    have x2 : w1.cell? ⟨w.heap.size, 2, none⟩ = some (.slice A t.parts.length c) := (h3.cell (p := ⟨w.heap.size, 2, none⟩) (by simp)).trans (by simp)
    have b1 := below_from h3
    replace b1 := Lib.hid b1
    clear h3
    go_wp2_with fail
    refine (h2.out _ b1.out).mono ?_
    rintro e w2 ⟨rfl, h3⟩
    replace h3 := Lib.hid h3
    go_wp2_with fail
    go_ret
    exact ⟨by rw [hr.out]; rfl, below_up b1.out h3.out⟩
end Go.Proofs.Ytpccgdkidnkppaa
