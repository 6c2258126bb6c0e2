import Derived.Test.YtkbblekengdhaaaPk5Told
import Derived.Test.YtkbblekengdhaaaPk6Told
import Derived.Test.YtkbblekengdhaaaPk8Told
import Derived.Test.YtkbblekengdhaaaPk9Told
set_option linter.unusedVariables false
set_option linter.unusedSimpArgs false
namespace Go.Proofs.Ytkbblekengdhaaa
open Go Go.RowKit

def noRows : Rows := fun _ => none
/-- the worlds in a run of l91Sheet: the result's block is the next one, the sheet's box is block m -/
structure ShSt (R : RdEnv) (w : World) (m p : Nat) (G : Rows) (made : List Bool) (ts : List (Value × Value × Value)) (vm vt : Value) (wr : World) : Prop where
  rd : RdAt R p wr
  turn : Turn (· = R.g) (· = R.g) w wr
  sh : Sht R.g R.B w.heap.size G made ts vm vt wr
  res : wr.heap[w.heap.size]? = some (.cells #[.slice none 0 0, .slice none 0 0] 26 (0, 0))
  box : wr.heap[m]? = some (.cells #[vm, vt] 26 (0, 0))
  bw : R.B ≤ w.heap.size
  hm : w.heap.size < m
section
variable {R : RdEnv} {w wr w2 : World} {m p p2 : Nat} {G G2 : Rows} {made : List Bool} {ts : List (Value × Value × Value)} {vm vt v' : Value}
theorem ShSt.start (h : RdAt R p w) {w1 : World} (hr : RdAt R p2 w1) (ht : Turn (· = R.g) (· = R.g) (w.alloc (.cells #[.slice none 0 0, .slice none 0 0] 26 (0, 0))) w1) :
    ShSt R w w1.heap.size p2 noRows [] [] (.slice none 0 0) (.slice none 0 0) (w1.alloc (.cells #[.slice none 0 0, .slice none 0 0] 26 (0, 0))) := by
  have hg := block_lt h.blk
  have hz : w.heap.size < w1.heap.size := by have := ht.size; simp at this; omega
  exact ⟨hr.up (below_al (Below.refl _ _) _), (((Turn.refl _ _).alloc _).trans ht).alloc _, ⟨World.ownsRow_nil _ _ _ _, World.ownsRow_nil _ _ _ _, fun b r m e => (by cases e), fun t e => (by cases e), fun i x e => (by cases e), fun b x e => (by cases e), hg⟩,
    (heap_old hz).trans ((ht.block _ (by simp) (fun e => by omega)).trans (heap_new rfl)), heap_new rfl, h.size, hz⟩
theorem ShSt.lo (h : ShSt R w m p G made ts vm vt wr) : w.heap.size ≤ wr.heap.size := h.turn.size
theorem ShSt.glt (h : ShSt R w m p G made ts vm vt wr) : R.g < w.heap.size := h.sh.glo
theorem ShSt.resG (h : ShSt R w m p G made ts vm vt wr) (x : Nat × Nat) : G w.heap.size ≠ some x := fun hx => by
  obtain ⟨_, _, cs, hb, _⟩ := h.sh.ty _ x.1 x.2 hx
  have := hb.symm.trans h.res; cases this
theorem ShSt.boxG (h : ShSt R w m p G made ts vm vt wr) (x : Nat × Nat) : G m ≠ some x := fun hx => by
  obtain ⟨_, _, cs, hb, _⟩ := h.sh.ty _ x.1 x.2 hx
  have := hb.symm.trans h.box; cases this
theorem ShSt.ne (h : ShSt R w m p G made ts vm vt wr) : vm.ownBlock ≠ some m ∧ vm.ownBlock ≠ some w.heap.size ∧ vt.ownBlock ≠ some m ∧ vt.ownBlock ≠ some w.heap.size :=
  ⟨ownsRow_ne h.sh.om h.box (fun c e => by cases e), ownsRow_ne h.sh.om h.res (fun c e => by cases e), ownsRow_ne h.sh.ot h.box (fun c e => by cases e), ownsRow_ne h.sh.ot h.res (fun c e => by cases e)⟩
theorem ShSt.move (h : ShSt R w m p G made ts vm vt wr) {F F' : Nat → Prop} (t : Turn F F' wr w2) (hF : ∀ i, F i → i = R.g ∨ dom G i) (rd : RdAt R p2 w2) (he : Ext G G2 wr.heap.size) (ty : TyH R.g R.B G2 w2) : ShSt R w m p2 G2 made ts vm vt w2 := by
  have hg := h.glt
  have hm := h.hm
  have hlo := h.lo
  refine ⟨rd, ⟨t.os.trans h.turn.os, t.tape.trans h.turn.tape, t.output.trans h.turn.output, Nat.le_trans h.lo t.size, fun i hi hn => (t.block i (by omega) (fun hf => ?_)).trans (h.turn.block i hi hn), fun i hi => .inl hi⟩, h.sh.move t hF he ty h.lo, (t.block _ (block_lt h.res) (fun hf => ?_)).trans h.res, (t.block _ (block_lt h.box) (fun hf => ?_)).trans h.box, h.bw, h.hm⟩
  · rcases hF i hf with e | ⟨x, hx⟩
    · exact hn e
    · have := h.sh.new i x hx; omega
  · rcases hF _ hf with e | ⟨x, hx⟩
    · omega
    · exact h.resG x hx
  · rcases hF _ hf with e | ⟨x, hx⟩
    · omega
    · exact h.boxG x hx
theorem ShSt.pick (h : ShSt R w m p G made ts vm vt wr) (rd : RdAt R p2 w2) (t : Turn (· = R.g) (· = R.g) wr w2) : ShSt R w m p2 G made ts vm vt w2 :=
  h.move t (fun i e => .inl e) rd (Ext.refl _ _) (h.sh.ty.turng t)
theorem ShSt.alloc (h : ShSt R w m p G made ts vm vt wr) (o : Obj) : ShSt R w m p G made ts vm vt (wr.alloc o) :=
  h.pick (h.rd.up (below_al (Below.refl _ _) _)) ((Turn.refl _ _).alloc _)
theorem ShSt.lower (h : ShSt R w m p G made ts vm vt wr) (ty : TyH R.g R.B G w2) (t : Turn (dom G) (dom G) wr w2) : ShSt R w m p G made ts vm vt w2 := by
  have hb : Below R.B wr w2 := t.below h.rd.size (fun i ⟨x, hx⟩ => (h.sh.ty i x.1 x.2 hx).1)
  exact h.move t (fun i e => .inr e) (h.rd.kept (t.block _ (block_lt h.rd.blk) (fun ⟨x, hx⟩ => (h.sh.ty _ x.1 x.2 hx).2.1 rfl)) (h.rd.below.trans hb) (Nat.le_trans h.rd.size t.size)) (Ext.refl _ _) ty
/-- another world in which all blocks but one row's and the box are as they were -/
theorem ShSt.put (h : ShSt R w m p G made ts vm vt wr) {made' : List Bool} {ts' : List (Value × Value × Value)} {vm' vt' : Value} {row : Option Nat} {j : Nat} (hg : wr.grownBy w2 row) (hr : ∀ i, row = some i → w.heap.size < i ∧ i ≠ m) (hsh : Sht R.g R.B w.heap.size G made' ts' vm' vt' w2)
    (hbx : (#[vm, vt] : Array Value).setIfInBounds j v' = #[vm', vt']) : ShSt R w m p G made' ts' vm' vt' (w2.setCell ⟨m, j, none⟩ v') := by
  have hgl := h.glt
  have hm := h.hm
  have hlo := h.lo
  have hkm : w2.heap[m]? = wr.heap[m]? := hg.block m (block_lt h.box) (fun e => (hr m e.symm).2 rfl)
  have hkr : w2.heap[w.heap.size]? = wr.heap[w.heap.size]? := hg.block _ (block_lt h.res) (fun e => by have := (hr _ e.symm).1; omega)
  have hb : Below w.heap.size wr (w2.setCell ⟨m, j, none⟩ v') := ((Below.refl _ _).grown hg hlo (fun k hk => by have := (hr k hk).1; omega)).setCell (p := ⟨m, j, none⟩) (Nat.le_of_lt hm) v'
  have b1 := hkm.trans h.box
  have n1 : vm'.ownBlock ≠ some m := ownsRow_ne hsh.om b1 (fun c e => by cases e)
  have n2 : vt'.ownBlock ≠ some m := ownsRow_ne hsh.ot b1 (fun c e => by cases e)
  refine ⟨⟨(hb.block _ hgl).trans h.rd.blk, h.rd.below.trans (hb.mono h.bw), Nat.le_trans h.rd.size hb.size⟩, ⟨hb.os.trans h.turn.os, hb.tape.trans h.turn.tape, hb.output.trans h.turn.output, Nat.le_trans hlo hb.size, fun i hi hn => (hb.block i hi).trans (h.turn.block i hi hn), fun i hi => .inl hi⟩, hsh.set _ _ n1 n2 h.boxG, ?_, ?_, h.bw, h.hm⟩
  · exact (setCell_far (by omega)).trans (hkr.trans h.res)
  · rw [← hbx]; exact setCell_block b1 j v'
theorem ShSt.app_made (h : ShSt R w m p G made ts vm vt wr) {x : Bool} (hg : wr.grownBy w2 vm.ownBlock) (ho : w2.ownsRow w.heap.size 4 1 v' (made.length + 1) (bools made ++ [.bool x])) : ShSt R w m p G (made ++ [x]) ts v' vt (w2.setCell ⟨m, 0, none⟩ v') :=
  h.put hg (fun i e => ⟨by have := (h.sh.om.lt i e).1; have h2 := h.ne.2.1; have : i ≠ w.heap.size := fun e2 => h2 (e2 ▸ e); omega, fun e2 => h.ne.1 (e2 ▸ e)⟩) (h.sh.app_made hg ho) rfl
theorem ShSt.app_task (h : ShSt R w m p G made ts vm vt wr) {x y z : Value} (hg : wr.grownBy w2 vt.ownBlock) (ho : w2.ownsRow w.heap.size 39 3 v' (ts.length + 1) (cells3 ts ++ [x, y, z])) (hv : TyV G 2 (.agg #[x, y, z]))
    (hat : ∀ i, v'.ownBlock = some i → vt.ownBlock = some i ∨ i = wr.heap.size) : ShSt R w m p G made (ts ++ [(x, y, z)]) vm v' (w2.setCell ⟨m, 1, none⟩ v') :=
  h.put hg (fun i e => ⟨by have := (h.sh.ot.lt i e).1; have h2 := h.ne.2.2.2; have : i ≠ w.heap.size := fun e2 => h2 (e2 ▸ e); omega, fun e2 => h.ne.2.2.1 (e2 ▸ e)⟩) (h.sh.app_task hg ho hv hat) rfl
theorem ShSt.cells (h : ShSt R w m p G made ts vm vt wr) : wr.cell? ⟨m, 0, none⟩ = some vm ∧ wr.cell? ⟨m, 1, none⟩ = some vt ∧ wr.frozen? ⟨m, 0, none⟩ = false ∧ wr.frozen? ⟨m, 1, none⟩ = false ∧ m < wr.heap.size :=
  ⟨cellm h.box 0, cellm h.box 1, frozenm h.box 0, frozenm h.box 1, block_lt h.box⟩
/-- .. a row's block was filled or made anew: the box reads as it did -/
theorem ShSt.cells_grown (h : ShSt R w m p G made ts vm vt wr) {row : Option Nat} (hg : wr.grownBy w2 row) (hr : row ≠ some m) : w2.cell? ⟨m, 0, none⟩ = some vm ∧ w2.cell? ⟨m, 1, none⟩ = some vt ∧ w2.frozen? ⟨m, 0, none⟩ = false ∧ w2.frozen? ⟨m, 1, none⟩ = false ∧ m < w2.heap.size := by
  have hb := (hg.block m (block_lt h.box) (fun e => hr e.symm)).trans h.box
  exact ⟨cellm hb 0, cellm hb 1, frozenm hb 0, frozenm hb 1, block_lt hb⟩
/-- a block that no row of the sheet, nor the reader, nor a variable lies in -/
def Far (R : RdEnv) (w : World) (m : Nat) (G : Rows) (vm vt : Value) (b : Nat) : Prop := vm.ownBlock ≠ some b ∧ vt.ownBlock ≠ some b ∧ (∀ x, G b ≠ some x) ∧ b ≠ w.heap.size ∧ b ≠ m ∧ b ≠ R.g ∧ w.heap.size ≤ b
theorem ShSt.far (h : ShSt R w m p G made ts vm vt wr) (b : Nat) (hb : wr.heap.size ≤ b) : Far R w m G vm vt b :=
  ⟨fun e => by have := (h.sh.om.lt b e).2; omega, fun e => by have := (h.sh.ot.lt b e).2; omega, fun x hx => by have := h.sh.ty.lt hx; omega, by have := block_lt h.res; omega, by have := block_lt h.box; omega, by have := block_lt h.rd.blk; omega, by have := h.lo; omega⟩
theorem ShSt.set (h : ShSt R w m p G made ts vm vt wr) {b : Nat} (hf : Far R w m G vm vt b) (o : Nat) (v : Value) : ShSt R w m p G made ts vm vt (wr.setCell ⟨b, o, none⟩ v) := by
  obtain ⟨f1, f2, f3, f4, f5, f6, f7⟩ := hf
  have t := setCell_turn (F := (· = b)) (w := wr) (a := ⟨b, o, none⟩) rfl v
  have hb : Below w.heap.size wr (wr.setCell ⟨b, o, none⟩ v) := t.below h.lo (fun i e => by cases e; exact f7)
  exact ⟨⟨(hb.block _ h.glt).trans h.rd.blk, h.rd.below.trans (hb.mono h.bw), Nat.le_trans h.rd.size hb.size⟩, ⟨hb.os.trans h.turn.os, hb.tape.trans h.turn.tape, hb.output.trans h.turn.output, Nat.le_trans h.lo hb.size, fun i hi hn => (hb.block i hi).trans (h.turn.block i hi hn), fun i hi => .inl hi⟩,
    h.sh.set o v f1 f2 f3, (setCell_far (fun e => f4 e.symm)).trans h.res, (setCell_far (fun e => f5 e.symm)).trans h.box, h.bw, h.hm⟩
/-- what a draw of a sheet brings -/
def DrawSh (R : RdEnv) (p c : Nat) (w : World) (e : Ending) (w' : World) : Prop :=
  ∃ p' G made ts vm vt, e = .returned (.agg #[vm, vt]) ∧ made.length = ts.length ∧ made.length ≤ 8 ∧ 2 ≤ made.length ∧ p ≤ p' ∧ p' ≤ p + c ∧ RdAt R p' w' ∧ Turn (· = R.g) (· = R.g) w w' ∧ Sht R.g R.B w.heap.size G made ts vm vt w'
theorem ShSt.done (h : ShSt R w m p2 G made ts vm vt wr) {c : Nat} {fn : Func} {t : Nat} {tmps : Array Value} (hr : fn.results = #[.cell t 26])
    (ht : tmps.getD t undef = .pointer (some ⟨w.heap.size, 0, none⟩)) (hl : made.length = ts.length ∧ made.length ≤ 8 ∧ 2 ≤ made.length) (hp : p ≤ p2 ∧ p2 ≤ p + c) :
    bodyPost Try.prog fn (DrawSh R p c w) .ret ⟨tmps, []⟩ ((wr.setCell ⟨w.heap.size, 0, none⟩ vm).setCell ⟨w.heap.size, 1, none⟩ vt) := by
  have t2 : Turn (· = w.heap.size) (· = w.heap.size) wr ((wr.setCell ⟨w.heap.size, 0, none⟩ vm).setCell ⟨w.heap.size, 1, none⟩ vt) :=
    (setCell_turn (F := (· = w.heap.size)) rfl vm).trans (setCell_turn (F := (· = w.heap.size)) rfl vt)
  have hb : Below w.heap.size wr ((wr.setCell ⟨w.heap.size, 0, none⟩ vm).setCell ⟨w.heap.size, 1, none⟩ vt) := t2.below h.lo (fun i e => by cases e; exact Nat.le_refl _)
  have hW := setCell_block (setCell_block h.res 0 vm) 1 vt
  have y0 : ((wr.setCell ⟨w.heap.size, 0, none⟩ vm).setCell ⟨w.heap.size, 1, none⟩ vt).cell? ⟨w.heap.size, 0, none⟩ = some vm := cellm hW 0
  have y1 : ((wr.setCell ⟨w.heap.size, 0, none⟩ vm).setCell ⟨w.heap.size, 1, none⟩ vt).cell? ⟨w.heap.size, 1, none⟩ = some vt := cellm hW 1
  have ht' : tmps[t]?.getD undef = .pointer (some ⟨w.heap.size, 0, none⟩) := by simpa using ht
  have fin : DrawSh R p c w (.returned (.agg #[vm, vt])) ((wr.setCell ⟨w.heap.size, 0, none⟩ vm).setCell ⟨w.heap.size, 1, none⟩ vt) :=
    ⟨p2, G, made, ts, vm, vt, rfl, hl.1, hl.2.1, hl.2.2, hp.1, hp.2, ⟨(hb.block _ h.glt).trans h.rd.blk, h.rd.below.trans (hb.mono h.bw), Nat.le_trans h.rd.size hb.size⟩,
      ⟨hb.os.trans h.turn.os, hb.tape.trans h.turn.tape, hb.output.trans h.turn.output, Nat.le_trans h.lo hb.size, fun i hi hn => (hb.block i hi).trans (h.turn.block i hi hn), fun i hi => .inl hi⟩,
      (h.sh.set _ _ h.ne.2.1 h.ne.2.2.2 h.resG).set _ _ h.ne.2.1 h.ne.2.2.2 h.resG⟩
  generalize (wr.setCell ⟨w.heap.size, 0, none⟩ vm).setCell ⟨w.heap.size, 1, none⟩ vt = W at *
  refine bodyPost_ret (v := .agg #[vm, vt]) ?_ rfl fin
  simp [results, hr, ht', go_sem, y0, y1]
end

theorem one_bool (b : Bool) : ∀ u ∈ [Value.bool b], u.oneCell' = true := by
  intro u hu; rw [List.mem_singleton.1 hu]; rfl
theorem one_task (a b : Int) (A : Option Addr) (n c : Nat) : ∀ u ∈ [Value.int .i64 a, Value.int .i64 b, Value.slice A n c], u.oneCell' = true := by
  intro u hu
  simp only [List.mem_cons, List.not_mem_nil, or_false] at hu
  rcases hu with rfl | rfl | rfl <;> rfl

set_option maxHeartbeats 4000000 in
theorem l91Sheet_calls (R : RdEnv) (hR : R.Good) (p : Nat) (hp : p + 400 ≤ 1000000) (w : World) (h : RdAt R p w) :
    Calls Try.prog 41 #[.pointer (some ⟨R.g, 0, none⟩)] w (DrawSh R p 400 w) := by
  have h1 := pick_calls R hR p (by omega) 7 _ (h.up (below_al (Below.refl _ _) (.cells #[.slice none 0 0, .slice none 0 0] 26 (0, 0))))
  replace h1 := Lib.hid h1
  replace h := Lib.hid h
  go_enter Try.func41, Try.ntmps41
  go_wp2_with fail
  refine h1.out.mono ?_
  rintro e w1 ⟨n, rfl, hn0, hn1, hr, ht⟩
  obtain ⟨n, rfl⟩ := Int.eq_ofNat_of_zero_le hn0
  have hn : n < 7 := by omega
  have hs := ShSt.start h.out hr ht
  have hz : w.heap.size < w1.heap.size := by have := ht.size; simp at this; omega
  clear h1 h hr ht
  have h2 := pick_calls R hR (p + 1) (by omega) 3 _ hs.rd
  replace h2 := Lib.hid h2
  replace hs := Lib.hid hs
  go_wp2_with fail
  refine h2.out.mono ?_
  rintro e w2 ⟨f, rfl, hf0, hf1, hr, ht⟩
  have hf : f < 3 := by omega
  have hs1 := hs.out.pick hr ht
  clear hs h2 hr ht
  have h3 := pick_calls R hR (p + 1 + 1) (by omega) 8 _ hs1.rd
  replace h3 := Lib.hid h3
  replace hs1 := Lib.hid hs1
  go_wp2_with fail
  refine h3.out.mono ?_
  rintro e w3 ⟨k, rfl, hk0, hk1, hr, ht⟩
  have hs2 := hs1.out.pick hr ht
  clear hs1 h3 hr ht
  replace hs2 := Lib.hid hs2
  go_wp2_with fail
  generalize w1.heap.size = m at hs2 ⊢
  generalize (k == 0) = wild
  go_loopw [7] (fun i wr => ∃ (j : Nat) (made : List Bool) (ts : List (Value × Value × Value)) (vm vt : Value) (G : Rows) (p2 : Nat), j ≤ n + 2 ∧ made.length = j ∧ ts.length = j ∧ p2 ≤ p + 3 + 41 * j ∧ p ≤ p2 ∧ i = .int .i64 j ∧ Hid (ShSt R w m p2 G made ts vm vt wr)) (fun i _ => n + 2 - (intOf i).toNat)
  case atStart => exact ⟨0, [], [], _, _, noRows, p + 1 + 1 + 1, Nat.zero_le _, rfl, rfl, by omega, by omega, rfl, hs2⟩
  case round =>
    obtain ⟨j, made, ts, vm, vt, G, p2, hj, hlm, hlt, hp2, hpp, rfl, hL⟩ := hrel
    by_cases hjn : j < n + 2
    · by_cases hjf : (j : Int) < 1 + f
      · have hA1a := hL.out.alloc (.cells #[.bool false] 4 (0, 0))
        obtain ⟨c0, c1, g0, g1, hmz⟩ := hL.out.cells
        replace hA1a := Lib.hid hA1a
        go_wp2_with (at_builtin; go_loud (with_reducible refine wpList_app1 (by rfl) (.tmp 34) (.tmp 35) 23 (by rfl) boolTy w.heap.size vm made.length (bools made) (by with_unfolding_all rfl) hA1a.out.sh.om wr.heap.size 1 [.bool false] (by with_unfolding_all rfl) (by with_unfolding_all rfl) ⟨_, _, heap_alloc_new wr _, rfl⟩ (one_bool _) ?_ ?_ ?_ ?_))
        · unfold maxLen; omega
        · omega
        · exact hA1a.out.lo
        intro g cap hA1w hown hgrow hat
        obtain ⟨c0, c1, g0, g1, hmz⟩ := hA1a.out.cells_grown hgrow hA1a.out.ne.1
        have hA1 := hA1a.out.app_made (x := false) (v' := .slice (some ⟨g, 0, none⟩) (j + 1) cap) hgrow (by rw [hlm]; exact hown)
        replace hA1 := Lib.hid hA1
        clear hown hgrow hat hA1a hL
        have hA2a := hA1.out.alloc (.cells #[.int .i64 0, .int .i64 0, .slice none 0 0] 39 (0, 0))
        replace hA2a := Lib.hid hA2a
        go_wp2_with (at_builtin; go_loud (with_reducible refine wpList_app1 (by rfl) (.tmp 39) (.tmp 41) 24 (by rfl) taskTy w.heap.size vt ts.length (cells3 ts) (by with_unfolding_all rfl) hA2a.out.sh.ot hA1w.heap.size 1 [.int .i64 0, .int .i64 0, .slice none 0 0] (by with_unfolding_all rfl) (by with_unfolding_all rfl) ⟨_, _, heap_new (by rw [World.size_setCell]), rfl⟩ (one_task _ _ _ _ _) ?_ ?_ ?_ ?_))
        · unfold maxLen; omega
        · omega
        · exact hA2a.out.lo
        intro g2 cap2 hA2w hown hgrow hat
        obtain ⟨c0, c1, g0, g1, hmz⟩ := hA2a.out.cells_grown hgrow hA2a.out.ne.2.2.1
        have hA2 := hA2a.out.app_task (v' := .slice (some ⟨g2, 0, none⟩) (j + 1) cap2) hgrow (by rw [hlt]; exact hown) (tyv_leaf _ _ _ _ (by omega)) (fun i hi => by cases hi; simpa using hat)
        replace hA2 := Lib.hid hA2
        clear hown hgrow hat hA2a hA1
        go_wp2_with fail
        go_roundw
        case rel => exact ⟨j + 1, _, _, _, _, _, p2, by omega, by simp [hlm], by simp [hlt], by omega, by omega, by go_num, hA2⟩
        case measure => simp [intOf]; omega
      · have hc := pick_calls R hR p2 (by omega) 10 wr hL.out.rd
        replace hc := Lib.hid hc
        go_wp2_with fail
        refine hc.out.mono ?_
        rintro e w4 ⟨x, rfl, hx0, hx1, hr2, ht2⟩
        have hL2 := hL.out.pick hr2 ht2
        clear hc hr2 ht2 hL
        replace hL2 := Lib.hid hL2
        by_cases hx : x = 0
        · subst hx
          have hA1a := hL2.out.alloc (.cells #[.bool false] 4 (0, 0))
          obtain ⟨c0, c1, g0, g1, hmz⟩ := hL2.out.cells
          replace hA1a := Lib.hid hA1a
          go_wp2_with (at_builtin; go_loud (with_reducible refine wpList_app1 (by rfl) (.tmp 34) (.tmp 35) 23 (by rfl) boolTy w.heap.size vm made.length (bools made) (by with_unfolding_all rfl) hA1a.out.sh.om w4.heap.size 1 [.bool false] (by with_unfolding_all rfl) (by with_unfolding_all rfl) ⟨_, _, heap_alloc_new w4 _, rfl⟩ (one_bool _) ?_ ?_ ?_ ?_))
          · unfold maxLen; omega
          · omega
          · exact hA1a.out.lo
          intro g cap hA1w hown hgrow hat
          obtain ⟨c0, c1, g0, g1, hmz⟩ := hA1a.out.cells_grown hgrow hA1a.out.ne.1
          have hA1 := hA1a.out.app_made (x := false) (v' := .slice (some ⟨g, 0, none⟩) (j + 1) cap) hgrow (by rw [hlm]; exact hown)
          replace hA1 := Lib.hid hA1
          clear hown hgrow hat hA1a hL2
          have hA2a := hA1.out.alloc (.cells #[.int .i64 0, .int .i64 0, .slice none 0 0] 39 (0, 0))
          replace hA2a := Lib.hid hA2a
          go_wp2_with (at_builtin; go_loud (with_reducible refine wpList_app1 (by rfl) (.tmp 39) (.tmp 41) 24 (by rfl) taskTy w.heap.size vt ts.length (cells3 ts) (by with_unfolding_all rfl) hA2a.out.sh.ot hA1w.heap.size 1 [.int .i64 0, .int .i64 0, .slice none 0 0] (by with_unfolding_all rfl) (by with_unfolding_all rfl) ⟨_, _, heap_new (by rw [World.size_setCell]), rfl⟩ (one_task _ _ _ _ _) ?_ ?_ ?_ ?_))
          · unfold maxLen; omega
          · omega
          · exact hA2a.out.lo
          intro g2 cap2 hA2w hown hgrow hat
          obtain ⟨c0, c1, g0, g1, hmz⟩ := hA2a.out.cells_grown hgrow hA2a.out.ne.2.2.1
          have hA2 := hA2a.out.app_task (v' := .slice (some ⟨g2, 0, none⟩) (j + 1) cap2) hgrow (by rw [hlt]; exact hown) (tyv_leaf _ _ _ _ (by omega)) (fun i hi => by cases hi; simpa using hat)
          replace hA2 := Lib.hid hA2
          clear hown hgrow hat hA2a hA1
          go_wp2_with fail
          go_roundw
          case rel => exact ⟨j + 1, _, _, _, _, _, p2 + 1, by omega, by simp [hlm], by simp [hlt], by omega, by omega, by go_num, hA2⟩
          case measure => simp [intOf]; omega
        · have hx' : (x == 0) = false := by simp [hx]
          cases wild with
          | true =>
            have hB1a := hL2.out.alloc (.cells #[.bool true] 4 (0, 0))
            obtain ⟨c0, c1, g0, g1, hmz⟩ := hL2.out.cells
            replace hB1a := Lib.hid hB1a
            go_wp2_with (at_builtin; go_loud (with_reducible refine wpList_app1 (by rfl) (.tmp 45) (.tmp 46) 23 (by rfl) boolTy w.heap.size vm made.length (bools made) (by with_unfolding_all rfl) hB1a.out.sh.om w4.heap.size 1 [.bool true] (by with_unfolding_all rfl) (by with_unfolding_all rfl) ⟨_, _, heap_alloc_new w4 _, rfl⟩ (one_bool _) ?_ ?_ ?_ ?_))
            · unfold maxLen; omega
            · omega
            · exact hB1a.out.lo
            intro g cap hB1w hown hgrow hat
            obtain ⟨c0, c1, g0, g1, hmz⟩ := hB1a.out.cells_grown hgrow hB1a.out.ne.1
            have hB1 := hB1a.out.app_made (x := true) (v' := .slice (some ⟨g, 0, none⟩) (j + 1) cap) hgrow (by rw [hlm]; exact hown)
            replace hB1 := Lib.hid hB1
            clear hown hgrow hat hB1a hL2
            go_wp2_with fail
            have hd := l91Fit_calls R hR G (p2 + 1) (by omega) (2 + (n : Int)) _ hB1.out.rd hB1.out.sh.ty
            replace hd := Lib.hid hd
            refine hd.out.mono ?_
            rintro e w5 ⟨q, G1, v, rfl, hv, hq, hQ, hr, ht, he, hy⟩
            have hB2 := hB1.out.move ht (fun i e => .inl e) hr he hy
            have hv' := hv
            obtain ⟨a9, b9, A9, m9, d9, rfl, _⟩ := hv'
            replace hv := Lib.hid hv
            replace hB2 := Lib.hid hB2
            clear hd hr ht he hy hB1 c0 c1 g0 g1 hmz
            obtain ⟨c0, c1, g0, g1, hmz⟩ := hB2.out.cells
            have hB3 := hB2.out.alloc (.cells #[.int .i64 a9, .int .i64 b9, .slice A9 m9 d9] 39 (0, 0))
            replace hB3 := Lib.hid hB3
            clear hB2
            have hBa := hB3.out.alloc (.cells #[.int .i64 a9, .int .i64 b9, .slice A9 m9 d9] 39 (0, 0))
            replace hBa := Lib.hid hBa
            go_wp2_with (at_builtin; go_loud (with_reducible refine wpList_app1 (by rfl) (.tmp 61) (.tmp 63) 24 (by rfl) taskTy w.heap.size vt ts.length (cells3 ts) (by with_unfolding_all rfl) hBa.out.sh.ot (w5.heap.size + 1) 1 [.int .i64 a9, .int .i64 b9, .slice A9 m9 d9] (by with_unfolding_all rfl) (by with_unfolding_all rfl) ⟨_, _, heap_new (by simp), rfl⟩ (one_task _ _ _ _ _) ?_ ?_ ?_ ?_))
            · unfold maxLen; omega
            · omega
            · exact hBa.out.lo
            intro g2 cap2 w8 hown hgrow hat
            obtain ⟨c0, c1, g0, g1, hmz⟩ := hBa.out.cells_grown hgrow hBa.out.ne.2.2.1
            have hB9 := hBa.out.app_task (v' := .slice (some ⟨g2, 0, none⟩) (j + 1) cap2) hgrow (by rw [hlt]; exact hown) hv.out (fun i hi => by cases hi; simpa using hat)
            replace hB9 := Lib.hid hB9
            clear hown hgrow hat hBa hB3
            go_wp2_with fail
            go_roundw
            case rel => exact ⟨j + 1, _, _, _, _, _, q, by omega, by simp [hlm], by simp [hlt], by omega, by omega, by go_num, hB9⟩
            case measure => simp [intOf]; omega
          | false =>
            have hB1a := hL2.out.alloc (.cells #[.bool true] 4 (0, 0))
            obtain ⟨c0, c1, g0, g1, hmz⟩ := hL2.out.cells
            replace hB1a := Lib.hid hB1a
            go_wp2_with (at_builtin; go_loud (with_reducible refine wpList_app1 (by rfl) (.tmp 45) (.tmp 46) 23 (by rfl) boolTy w.heap.size vm made.length (bools made) (by with_unfolding_all rfl) hB1a.out.sh.om w4.heap.size 1 [.bool true] (by with_unfolding_all rfl) (by with_unfolding_all rfl) ⟨_, _, heap_alloc_new w4 _, rfl⟩ (one_bool _) ?_ ?_ ?_ ?_))
            · unfold maxLen; omega
            · omega
            · exact hB1a.out.lo
            intro g cap hB1w hown hgrow hat
            obtain ⟨c0, c1, g0, g1, hmz⟩ := hB1a.out.cells_grown hgrow hB1a.out.ne.1
            have hB1 := hB1a.out.app_made (x := true) (v' := .slice (some ⟨g, 0, none⟩) (j + 1) cap) hgrow (by rw [hlm]; exact hown)
            replace hB1 := Lib.hid hB1
            clear hown hgrow hat hB1a hL2
            go_wp2_with fail
            have hd := l91Fit_calls R hR G (p2 + 1) (by omega) ((j : Int)) _ hB1.out.rd hB1.out.sh.ty
            replace hd := Lib.hid hd
            refine hd.out.mono ?_
            rintro e w5 ⟨q, G1, v, rfl, hv, hq, hQ, hr, ht, he, hy⟩
            have hB2 := hB1.out.move ht (fun i e => .inl e) hr he hy
            have hv' := hv
            obtain ⟨a9, b9, A9, m9, d9, rfl, _⟩ := hv'
            replace hv := Lib.hid hv
            replace hB2 := Lib.hid hB2
            clear hd hr ht he hy hB1 c0 c1 g0 g1 hmz
            have hB3 := hB2.out.alloc (.cells #[.int .i64 a9, .int .i64 b9, .slice A9 m9 d9] 39 (0, 0))
            have hlw := l91Lower_calls R.g R.B G1 j 2 _ _ hv.out hB3.sh.ty
            have hfar := fun i (hi : i = w5.heap.size) => hB2.out.far i (by omega)
            replace hlw := Lib.hid hlw
            replace hB3 := Lib.hid hB3
            replace hfar := Lib.hid hfar
            clear hB2
            go_wp2_with fail
            refine hlw.out.mono ?_
            rintro e w6 ⟨v6, rfl, hv6, hy6, ht6⟩
            have hB4 := hB3.out.lower hy6 ht6
            have hf6 := hfar.out _ rfl
            have hb9 := (ht6.block w5.heap.size (by simp) (fun ⟨x, hx⟩ => hf6.2.2.1 x hx)).trans (heap_new rfl)
            have hv6' := hv6
            obtain ⟨a6, b6, A6, m6, d6, rfl, _⟩ := hv6'
            have hB5 := ((hB4.set hf6 0 (.int .i64 a6)).set hf6 1 (.int .i64 b6)).set hf6 2 (.slice A6 m6 d6)
            have t0 : w6.cell? ⟨w5.heap.size, 0, none⟩ = some (.int .i64 a9) := cellm hb9 0
            have t1 : w6.cell? ⟨w5.heap.size, 1, none⟩ = some (.int .i64 b9) := cellm hb9 1
            have t2 : w6.cell? ⟨w5.heap.size, 2, none⟩ = some (.slice A9 m9 d9) := cellm hb9 2
            have r0 : w6.frozen? ⟨w5.heap.size, 0, none⟩ = false := frozenm hb9 0
            have r1 : w6.frozen? ⟨w5.heap.size, 1, none⟩ = false := frozenm hb9 1
            have r2 : w6.frozen? ⟨w5.heap.size, 2, none⟩ = false := frozenm hb9 2
            have z9 := block_lt hb9
            have zne : m ≠ w5.heap.size := fun e => hf6.2.2.2.2.1 e.symm
            obtain ⟨c0, c1, g0, g1, hmz⟩ := hB4.cells
            replace hB5 := Lib.hid hB5
            replace hv6 := Lib.hid hv6
            clear hlw hB3 hB4 hfar hf6 hb9 hy6 ht6
            have hBa := hB5.out.alloc (.cells #[.int .i64 a6, .int .i64 b6, .slice A6 m6 d6] 39 (0, 0))
            replace hBa := Lib.hid hBa
            go_wp2_with (at_builtin; go_loud (with_reducible refine wpList_app1 (by rfl) (.tmp 61) (.tmp 63) 24 (by rfl) taskTy w.heap.size vt ts.length (cells3 ts) (by with_unfolding_all rfl) hBa.out.sh.ot w6.heap.size 1 [.int .i64 a6, .int .i64 b6, .slice A6 m6 d6] (by with_unfolding_all rfl) (by with_unfolding_all rfl) ⟨_, _, heap_new (by simp), rfl⟩ (one_task _ _ _ _ _) ?_ ?_ ?_ ?_))
            · unfold maxLen; omega
            · omega
            · exact hBa.out.lo
            intro g2 cap2 w8 hown hgrow hat
            obtain ⟨c0, c1, g0, g1, hmz⟩ := hBa.out.cells_grown hgrow hBa.out.ne.2.2.1
            have hB9 := hBa.out.app_task (v' := .slice (some ⟨g2, 0, none⟩) (j + 1) cap2) hgrow (by rw [hlt]; exact hown) hv6.out (fun i hi => by cases hi; simpa using hat)
            replace hB9 := Lib.hid hB9
            clear hown hgrow hat hBa hB5
            go_wp2_with fail
            go_roundw
            case rel => exact ⟨j + 1, _, _, _, _, _, q, by omega, by simp [hlm], by simp [hlt], by omega, by omega, by go_num, hB9⟩
            case measure => simp [intOf]; omega
    · have hjn' : j = n + 2 := by omega
      subst hjn'
      obtain ⟨Am, cm, evm, _⟩ := ownsRow_cells hL.out.sh.om
      obtain ⟨At, ct, evt, _⟩ := ownsRow_cells hL.out.sh.ot
      subst evm evt
      rw [hlm, hlt] at hL
      obtain ⟨c0, c1, g0, g1, hmz⟩ := hL.out.cells
      have r0 : wr.cell? ⟨w.heap.size, 0, none⟩ = some (.slice none 0 0) := cellm hL.out.res 0
      have r1 : wr.cell? ⟨w.heap.size, 1, none⟩ = some (.slice none 0 0) := cellm hL.out.res 1
      have k0 : wr.frozen? ⟨w.heap.size, 0, none⟩ = false := frozenm hL.out.res 0
      have k1 : wr.frozen? ⟨w.heap.size, 1, none⟩ = false := frozenm hL.out.res 1
      have z0 := block_lt hL.out.res
      go_wp2_with fail
      exact hL.out.done (p := p) (c := 400) rfl rfl ⟨by omega, by omega, by omega⟩ ⟨by omega, by omega⟩
end Go.Proofs.Ytkbblekengdhaaa

set_option linter.unusedVariables false
set_option linter.unusedSimpArgs false
namespace Go.Proofs.Ytkbblekengdhaaa
open Go Go.RowKit

/-- a drawn sheet and drawn inputs, as a world holds them -/
structure ArgsAt (w : World) (Am : Option Addr) (cm : Nat) (At : Option Addr) (ct : Nat) (made : List Bool) (tasks : List Task) (Ai : Option Addr) (ci : Nat) (inputs : List Int) : Prop where
  sheet : SheetAt w.heap.size w Am cm At ct made tasks
  ints : IntsAt w.heap.size w Ai inputs
  len : tasks.length = made.length
  small : made.length ≤ 8
  nodes : ∀ T ∈ tasks, nodes T ≤ 13
  ilen : inputs.length ≤ 9
  icap : inputs.length ≤ ci
  imax : ci ≤ maxLen

section
variable {g B lo lo2 : Nat} {G : Rows} {made : List Bool} {ts : List (Value × Value × Value)} {vm vt vi : Value} {xs : List Int} {w w2 : World}
/-- a drawn sheet and a row of numbers -/
structure ShIn (g B lo lo2 : Nat) (G : Rows) (made : List Bool) (ts : List (Value × Value × Value)) (vm vt vi : Value) (xs : List Int) (w : World) : Prop where
  sh : Sht g B lo G made ts vm vt w
  own : w.ownsRow lo2 3 1 vi xs.length (ints xs)
  lo : g < lo2
theorem ShIn.pick (h : ShIn g B lo lo2 G made ts vm vt vi xs w) {F' : Nat → Prop} (t : Turn (· = g) F' w w2) (hlo : lo ≤ w.heap.size) : ShIn g B lo lo2 G made ts vm vt vi xs w2 :=
  ⟨h.sh.pick t hlo, ownsRow_block h.own (fun i hi => t.block i (h.own.lt i hi).2 (fun e => by have := (h.own.lt i hi).1; have := h.lo; omega)), h.lo⟩
theorem ShIn.set (h : ShIn g B lo lo2 G made ts vm vt vi xs w) {b : Nat} (hb : b < lo) (hb2 : b < lo2) (o : Nat) (v : Value) : ShIn g B lo lo2 G made ts vm vt vi xs (w.setCell ⟨b, o, none⟩ v) :=
  ⟨h.sh.set o v (fun e => by have := (h.sh.om.lt b e).1; omega) (fun e => by have := (h.sh.ot.lt b e).1; omega) (fun x hx => by have := h.sh.new b x hx; omega), ownsRow_block h.own (fun i hi => setCell_far (fun e => by have := (h.own.lt i hi).1; omega)), h.lo⟩
theorem ShIn.args (h : ShIn g B lo lo2 G made ts vm vt vi xs w) (h1 : made.length = ts.length) (h2 : made.length ≤ 8) (h3 : xs.length ≤ 9) :
    ∃ Am cm At ct tasks Ai ci, vm = .slice Am made.length cm ∧ vt = .slice At tasks.length ct ∧ vi = .slice Ai xs.length ci ∧ ArgsAt w Am cm At ct made tasks Ai ci xs := by
  obtain ⟨Am, cm, At, ct, tasks, e1, e2, e3, e4, e5⟩ := h.sh.reads
  obtain ⟨Ai, ci, e6, e7, e8, e9⟩ := ownsRow_ints h.own
  exact ⟨Am, cm, At, ct, tasks, Ai, ci, e1, e2, e6, e4, e9, by omega, h2, fun T hT => by have := e5 T hT; simpa [nb] using this, h3, e7, e8⟩
end

theorem ret_sheet2 {fn : Func} {t u v : Nat} {tmps : Array Value} {Q : Ending → World → Prop} {W : World} {m : Nat} {a b x y : Value} (hr : fn.results = #[.cell t 26, .tmp u, .tmp v])
    (ht : tmps.getD t undef = .pointer (some ⟨m, 0, none⟩)) (hu : tmps.getD u undef = x) (hv : tmps.getD v undef = y) (hW : W.heap[m]? = some (.cells #[a, b] 26 (0, 0))) (K : Q (.returned (.tuple #[.agg #[a, b], x, y])) W) : bodyPost Try.prog fn Q .ret ⟨tmps, []⟩ W := by
  have y0 : W.cell? ⟨m, 0, none⟩ = some a := cellm hW 0
  have y1 : W.cell? ⟨m, 1, none⟩ = some b := cellm hW 1
  refine bodyPost_ret (v := .tuple #[.agg #[a, b], x, y]) ?_ rfl K
  have ht' : tmps[t]?.getD undef = .pointer (some ⟨m, 0, none⟩) := by simpa using ht
  have hu' : tmps[u]?.getD undef = x := by simpa using hu
  have hv' : tmps[v]?.getD undef = y := by simpa using hv
  simp [results, hr, ht', hu', hv', go_sem, y0, y1]

/-- what a draw of a sheet, inputs and a key brings -/
def DrawKeyP (w : World) (e : Ending) (w' : World) : Prop :=
  ∃ Am cm At ct made tasks Ai ci inputs key, e = .returned (.tuple #[.agg #[.slice Am made.length cm, .slice At tasks.length ct], .slice Ai inputs.length ci, .int .i64 key]) ∧ -1 ≤ key ∧ key ≤ 9 ∧ ArgsAt w' Am cm At ct made tasks Ai ci inputs ∧ Below w.heap.size w w'

theorem ShIn.key {g B lo lo2 : Nat} {G : Rows} {made : List Bool} {ts : List (Value × Value × Value)} {vm vt vi : Value} {xs : List Int} {w w2 : World} (h : ShIn g B lo lo2 G made ts vm vt vi xs w2) (h1 : made.length = ts.length) (h2 : made.length ≤ 8) (h3 : xs.length ≤ 9) (hb : Below w.heap.size w w2) (k : Int) (hk0 : -1 ≤ k) (hk1 : k ≤ 9) :
    DrawKeyP w (.returned (.tuple #[.agg #[vm, vt], vi, .int .i64 k])) w2 := by
  obtain ⟨Am', cm', At', ct', tasks, Ai', ci', rfl, rfl, rfl, ha⟩ := h.args h1 h2 h3
  exact ⟨Am', cm', At', ct', made, tasks, Ai', ci', xs, k, rfl, hk0, hk1, ha, hb⟩

end Go.Proofs.Ytkbblekengdhaaa

set_option linter.unusedVariables false
set_option linter.unusedSimpArgs false
namespace Go.Proofs.Ytkbblekengdhaaa
open Go Go.RowKit

theorem ret_sheet1 {fn : Func} {t u : Nat} {tmps : Array Value} {Q : Ending → World → Prop} {W : World} {m : Nat} {a b x : Value} (hr : fn.results = #[.cell t 26, .tmp u])
    (ht : tmps.getD t undef = .pointer (some ⟨m, 0, none⟩)) (hu : tmps.getD u undef = x) (hW : W.heap[m]? = some (.cells #[a, b] 26 (0, 0))) (K : Q (.returned (.tuple #[.agg #[a, b], x])) W) : bodyPost Try.prog fn Q .ret ⟨tmps, []⟩ W := by
  have y0 : W.cell? ⟨m, 0, none⟩ = some a := cellm hW 0
  have y1 : W.cell? ⟨m, 1, none⟩ = some b := cellm hW 1
  refine bodyPost_ret (v := .tuple #[.agg #[a, b], x]) ?_ rfl K
  have ht' : tmps[t]?.getD undef = .pointer (some ⟨m, 0, none⟩) := by simpa using ht
  have hu' : tmps[u]?.getD undef = x := by simpa using hu
  simp [results, hr, ht', hu', go_sem, y0, y1]

/-- what a draw of a sheet and inputs brings -/
def DrawAllP (w : World) (e : Ending) (w' : World) : Prop :=
  ∃ Am cm At ct made tasks Ai ci inputs, e = .returned (.tuple #[.agg #[.slice Am made.length cm, .slice At tasks.length ct], .slice Ai inputs.length ci]) ∧ ArgsAt w' Am cm At ct made tasks Ai ci inputs ∧ Below w.heap.size w w'
theorem ShIn.all {g B lo lo2 : Nat} {G : Rows} {made : List Bool} {ts : List (Value × Value × Value)} {vm vt vi : Value} {xs : List Int} {w w2 : World} (h : ShIn g B lo lo2 G made ts vm vt vi xs w2) (h1 : made.length = ts.length) (h2 : made.length ≤ 8) (h3 : xs.length ≤ 9) (hb : Below w.heap.size w w2) :
    DrawAllP w (.returned (.tuple #[.agg #[vm, vt], vi])) w2 := by
  obtain ⟨Am', cm', At', ct', tasks, Ai', ci', rfl, rfl, rfl, ha⟩ := h.args h1 h2 h3
  exact ⟨Am', cm', At', ct', made, tasks, Ai', ci', xs, rfl, ha, hb⟩

end Go.Proofs.Ytkbblekengdhaaa

set_option linter.unusedVariables false
set_option linter.unusedSimpArgs false
namespace Go.Proofs.Ytkbblekengdhaaa
open Go Go.RowKit

theorem specAllL_false {S : Sh} : ∀ (ks out all : List Int), specAllL S ks out = (all, false) → all = [] := by
  intro ks
  induction ks with
  | nil => intro out all h; cases h
  | cons k ks ih =>
    intro out all h
    rw [specAllL] at h
    by_cases hk : (specKeyP S k).2 = true
    · rw [if_pos hk] at h; exact ih _ _ h
    · rw [if_neg hk] at h; cases h; rfl

end Go.Proofs.Ytkbblekengdhaaa

set_option linter.unusedVariables false
set_option linter.unusedSimpArgs false
namespace Go.Proofs.Ytkbblekengdhaaa
open Go Go.RowKit

/-- a result that reads as a row of numbers, and a truth -/
def GivesList (r : List Int × Bool) (e : Ending) (w w' : World) : Prop :=
  ∃ A c, e = .returned (.tuple #[.slice A r.1.length c, .bool r.2]) ∧ r.1.length ≤ c ∧ c ≤ maxLen ∧ IntsAt w'.heap.size w' A r.1 ∧ Below w.heap.size w w'
/-- .. in memory from a block on -/
def GivesOwn (B : Nat) (r : List Int × Bool) (e : Ending) (w w' : World) : Prop :=
  ∃ v, e = .returned (.tuple #[v, .bool r.2]) ∧ w'.ownsRow B 3 1 v r.1.length (ints r.1) ∧ Below w.heap.size w w'
theorem GivesOwn.list {B : Nat} {r : List Int × Bool} {e : Ending} {w w' : World} (h : GivesOwn B r e w w') : GivesList r e w w' := by
  obtain ⟨v, rfl, ho, hb⟩ := h
  obtain ⟨A, c, rfl, h1, h2, h3⟩ := ownsRow_ints ho
  exact ⟨A, c, rfl, h1, h2, h3, hb⟩
def circleP (S : Sh) (k : Int) : List Int × Bool := if (keyP S S.made.length st0 k).1.2 then ([], false) else ((keyP S S.made.length st0 k).2.circle, true)
def specCircleP (S : Sh) (k : Int) : List Int × Bool := if (specP S S.made.length [] [] k).1.2 then ([], false) else ((specP S S.made.length [] [] k).2, true)
theorem circle_same {S : Sh} (hS : S.Ok) (k : Int) : circleP S k = specCircleP S k := by
  have h := build_spec hS k
  have h1 : (keyP S S.made.length st0 k).1 = (specP S S.made.length [] [] k).1 := h.1
  unfold circleP specCircleP
  rw [← h1]
  cases hk : (keyP S S.made.length st0 k).1.2 with
  | true => rfl
  | false => rw [h.2 hk]

end Go.Proofs.Ytkbblekengdhaaa

set_option linter.unusedVariables false
set_option linter.unusedSimpArgs false
namespace Go.Proofs.Ytkbblekengdhaaa
open Go Go.RowKit

/-! the reference's passes, one after another -/
def passN (may : Int → List Int) (n : Nat) : Nat → (Int → Bool) → (Int → Bool)
  | 0, d => d
  | m + 1, d => passN may n m (passKs may (keysN n) d)
def safeB (may : Int → List Int) (n : Nat) : Bool := (keysN n).all (passN may n (n + 1) (fun _ => false))
section
variable {may : Int → List Int} {n : Nat}
theorem passKs_range : ∀ (ks : List Int) (d : Int → Bool), (∀ i, d i = true → 0 ≤ i ∧ i < n) → (∀ k ∈ ks, 0 ≤ k ∧ k < n) → ∀ i, passKs may ks d i = true → 0 ≤ i ∧ i < n := by
  intro ks
  induction ks with
  | nil => intro d h _ i hi; exact h i hi
  | cons k ks ih =>
    intro d h hk i hi
    refine ih _ (fun j hj => ?_) (fun k hk' => hk k (List.mem_cons_of_mem _ hk')) i hi
    by_cases e : j = k
    · rw [e]; exact hk k (List.mem_cons_self ..)
    · simp only [e, if_false] at hj; exact h j hj
theorem mem_keysN {n : Nat} {k : Int} : k ∈ keysN n ↔ 0 ≤ k ∧ k < n := by
  unfold keysN
  rw [List.mem_map]
  constructor
  · rintro ⟨q, hq, rfl⟩
    have := List.mem_range.1 hq
    omega
  · intro h
    obtain ⟨q, rfl⟩ := Int.eq_ofNat_of_zero_le h.1
    exact ⟨q, List.mem_range.2 (by omega), rfl⟩
theorem cntN_mono {X Y : Int → Bool} {n : Nat} (h : ∀ k, X k = true → Y k = true) : cntN X n ≤ cntN Y n := by
  unfold cntN
  induction n with
  | zero => simp
  | succ n ih =>
    rw [List.range_succ, List.filter_append, List.filter_append, List.length_append, List.length_append]
    have : ([n].filter fun q : Nat => X q).length ≤ ([n].filter fun q : Nat => Y q).length := by
      simp only [List.filter_cons, List.filter_nil]
      by_cases e : X n = true
      · simp [e, h _ e]
      · simp [e]
    omega
theorem cntN_full {X : Int → Bool} {n : Nat} (h : n ≤ cntN X n) : ∀ q : Nat, q < n → X q = true := by
  intro q hq
  cases e : X q with
  | true => rfl
  | false =>
    have h1 := cntN_set hq e
    have h2 := cntN_le (setX X q) n
    omega
/-- some key that is not done has all its keys done -/
theorem least_wf {d : Int → Bool} (hcl : ∀ k : Nat, k < n → ∀ j ∈ may k, 0 ≤ j ∧ j < n) : ∀ k, Wf may k → 0 ≤ k → k < n → d k = false → ∃ q : Nat, q < n ∧ d q = false ∧ ∀ j ∈ may q, d j = true := by
  intro k hk
  induction hk with
  | mk k _ ih =>
    intro h0 h1 hd
    obtain ⟨q, rfl⟩ := Int.eq_ofNat_of_zero_le h0
    by_cases hall : ∀ j ∈ may q, d j = true
    · exact ⟨q, by omega, hd, hall⟩
    · simp only [Classical.not_forall] at hall
      obtain ⟨j, hj, hn⟩ := hall
      obtain ⟨a, b⟩ := hcl q (by omega) j hj
      exact ih j hj a b (by simpa using hn)
theorem passN_count (hcl : ∀ k : Nat, k < n → ∀ j ∈ may k, 0 ≤ j ∧ j < n) (hw : ∀ k : Nat, k < n → Wf may k) : ∀ (m : Nat) (d : Int → Bool), (∀ i, d i = true → ∀ j ∈ may i, d j = true) → min n (cntN d n + m) ≤ cntN (passN may n m d) n := by
  intro m
  induction m with
  | zero => intro d _; rw [passN]; omega
  | succ m ih =>
    intro d hd
    obtain ⟨h1, h2⟩ := passKs_mono (keysN n) d hd
    have h3 := ih _ h2
    rw [passN]
    by_cases hall : ∀ q : Nat, q < n → d q = true
    · have h4 : n ≤ cntN (passKs may (keysN n) d) n := by
        have e := cntN_congr (X := passKs may (keysN n) d) (Y := fun _ => true) (n := n) (fun q hq => h1 q (hall q hq))
        rw [e]; unfold cntN; rw [List.filter_eq_self.2 (fun _ _ => rfl), List.length_range]; exact Nat.le_refl _
      omega
    · simp only [Classical.not_forall] at hall
      obtain ⟨k, hk, hne⟩ := hall
      obtain ⟨q, hq, hdq, hm⟩ := least_wf (d := d) hcl k (hw k hk) (by omega) (by omega) (by simpa using hne)
      have h4 := passKs_adds (keysN n) d hd q (mem_keysN.2 (by omega)) hm
      have h5 : cntN (setX d q) n ≤ cntN (passKs may (keysN n) d) n := cntN_mono fun j hj => by
        simp only [setX] at hj
        split at hj
        · rename_i e; rw [e]; exact h4
        · exact h1 j hj
      rw [cntN_set hq hdq] at h5
      omega
theorem passN_wf : ∀ (m : Nat) (d : Int → Bool), (∀ i, d i = true → Wf may i) → ∀ i, passN may n m d i = true → Wf may i := by
  intro m
  induction m with
  | zero => intro d h i hi; exact h i hi
  | succ m ih => intro d h i hi; exact ih _ (passKs_wf _ d h) i hi
theorem safeB_ok (hcl : ∀ k : Nat, k < n → ∀ j ∈ may k, 0 ≤ j ∧ j < n) : safeB may n = true ↔ ∀ k : Nat, k < n → Wf may k := by
  unfold safeB
  rw [List.all_eq_true]
  constructor
  · intro h k hk
    exact passN_wf (n + 1) _ (fun i hi => by cases hi) _ (h k (mem_keysN.2 (by omega)))
  · intro hw k hk
    have h1 := passN_count hcl hw (n + 1) (fun _ => false) (fun i hi => by cases hi)
    obtain ⟨a, b⟩ := mem_keysN.1 hk
    obtain ⟨q, rfl⟩ := Int.eq_ofNat_of_zero_le a
    exact cntN_full (n := n) (by omega) q (by omega)
end

/-! of sheets -/
def taskAt (tasks : List Task) (k : Int) : Task := tasks.getD k.toNat default
/-- the made keys that a key may fetch -/
def mayS (made : List Bool) (tasks : List Task) (k : Int) : List Int := mayMade made (taskAt tasks k)
theorem taskAt_get {tasks : List Task} {q : Nat} (h : q < tasks.length) : taskAt tasks q = tasks[q] := getD_at _ h
theorem mayS_made {made : List Bool} {tasks : List Task} {k : Int} : ∀ j ∈ mayS made tasks k, mkK made j = true ∧ 0 ≤ j ∧ j < made.length := by
  intro j hj
  have h := (List.mem_filter.1 hj).2
  exact ⟨h, mkK_range (by rw [h]; simp)⟩
/-- whether a sheet is safe -/
def safeP (made : List Bool) (tasks : List Task) : Bool := sheetOk made tasks && safeB (mayS made tasks) made.length
def implSafeP (made : List Bool) (tasks : List Task) : Bool := sheetOk made tasks && (topoP (mkK made) (mayS made tasks) made.length (cntN (mkK made) made.length) []).2
theorem sheetOkL_at : ∀ {made : List Bool} {tasks : List Task}, sheetOkL made tasks = true → made.length = tasks.length → ∀ (q : Nat) (h : q < tasks.length) (h' : q < made.length), okT tasks[q] = true ∧ (made[q] = false → tasks[q].kind = 0 ∧ tasks[q].n = 0) := by
  intro made
  induction made with
  | nil => intro tasks _ hl q h h'; simp at h'
  | cons m ms ih =>
    intro tasks h hl q hq hq'
    cases tasks with
    | nil => simp at hq
    | cons t ts =>
      rw [sheetOkL_cons, Bool.and_eq_true, Bool.and_eq_true] at h
      obtain ⟨⟨h1, h2⟩, h3⟩ := h
      cases q with
      | zero =>
        refine ⟨h1, fun hm => ?_⟩
        simp only [List.getElem_cons_zero] at hm ⊢
        rw [hm] at h2
        simpa using h2
      | succ q => exact ih h3 (by simpa using hl) q (by simpa using hq) (by simpa using hq')
theorem zero_may {t : Task} (hok : okT t = true) (hk : t.kind = 0) (i : Int) : mayTask t i = false := by
  obtain ⟨k, rfl, hk2⟩ := okT_tk hok
  cases k <;> simp [Tk.enc, Task.kind] at hk <;> simp [Tk.enc, mayTask, mayTaskL]
theorem mem_mayFrom_inv (t : Task) : ∀ (m : Nat), m ≤ 10 → ∀ x ∈ mayFrom t m, mayTask t x = true := by
  intro m
  induction m with
  | zero => intro _ x hx; cases hx
  | succ m ih =>
    intro hm x hx
    rw [mayFrom, List.mem_append] at hx
    rcases hx with hx | hx
    · split at hx
      · rename_i h; rw [List.mem_singleton.1 hx]; exact h
      · cases hx
    · exact ih (by omega) x hx
theorem mem_mayList {t : Task} {x : Int} : x ∈ mayList t ↔ okT t = true ∧ 0 ≤ x ∧ x ≤ 9 ∧ mayTask t x = true := by
  constructor
  · intro h
    have hr := mayList_range t x h
    unfold mayList at h
    split at h
    · rename_i hok; exact ⟨hok, hr.1, hr.2, mem_mayFrom_inv t 10 (by omega) x h⟩
    · cases h
  · rintro ⟨h1, h2, h3, h4⟩
    obtain ⟨q, rfl⟩ := Int.eq_ofNat_of_zero_le h2
    unfold mayList
    rw [if_pos h1]
    exact mem_mayFrom t 10 q (by omega) (by omega) (by omega) h4
theorem mayS_unmade {made : List Bool} {tasks : List Task} (hok : sheetOk made tasks = true) {q : Nat} (hq : q < made.length) (hm : mkK made q = false) : mayS made tasks q = [] := by
  simp only [sheetOk, Bool.and_eq_true, decide_eq_true_eq] at hok
  obtain ⟨⟨h1, h2⟩, h3⟩ := hok
  have hqt : q < tasks.length := by omega
  obtain ⟨a, b⟩ := sheetOkL_at h3 h1 q hqt hq
  have hmq : made[q] = false := by
    unfold mkK at hm
    rw [if_neg (by omega), Int.toNat_natCast, getD_at _ hq] at hm
    exact hm
  unfold mayS
  rw [taskAt_get hqt]
  apply List.eq_nil_iff_forall_not_mem.2
  intro x hx
  have := (mem_mayList.1 (List.mem_filter.1 hx).1).2.2.2
  rw [zero_may a (b hmq).1] at this
  cases this
/-- safe: no key leads to a circle -/
theorem safeP_iff {made : List Bool} {tasks : List Task} (hok : sheetOk made tasks = true) : safeP made tasks = true ↔ ∀ k : Nat, k < made.length → Wf (mayS made tasks) k := by
  unfold safeP
  rw [hok, Bool.true_and]
  exact safeB_ok fun k _ j hj => (mayS_made j hj).2
theorem safe_same (made : List Bool) (tasks : List Task) : implSafeP made tasks = safeP made tasks := by
  cases hok : sheetOk made tasks with
  | false => simp [implSafeP, safeP, hok]
  | true =>
    rw [Bool.eq_iff_iff, safeP_iff hok]
    unfold implSafeP
    rw [hok, Bool.true_and, topoP_ok (fun k _ _ j hj => ⟨(mayS_made j hj).1, (mayS_made j hj).2⟩)]
    refine ⟨fun h k hk => ?_, fun h k hk _ => h k hk⟩
    cases hm : mkK made k with
    | true => exact h k hk hm
    | false => exact .mk _ fun j hj => by rw [mayS_unmade hok hk hm] at hj; cases hj
/-- what is safe never fails -/
theorem safe_all {S : Sh} (hS : S.Ok) (h : safeP S.made (S.tks.map Tk.enc) = true) (k : Int) : (specKeyP S k).2 = true := by
  cases e : (specKeyP S k).2 with
  | true => rfl
  | false =>
    exfalso
    obtain ⟨hne, hc⟩ := spec_cyc _ _ _ _ (uok0 S) (chain0 S k) e
    have hw := (safeP_iff hS.sheet).1 h
    generalize (specP S S.made.length [] [] k).2 = l at hne hc
    have hl : 0 < l.length := by cases l with | nil => exact (hne rfl).elim | cons a l => simp
    refine wf_no_cycle (may := mayS S.made (S.tks.map Tk.enc)) hne (fun i hi => ?_) l[0] ?_ (List.getElem_mem _)
    · obtain ⟨h1, h2⟩ := hc i hi
      have h3 := (hc ((i + 1) % l.length) (Nat.mod_lt _ hl)).1
      have hr := mkK_range (show mkK S.made l[i] ≠ false by rw [h1]; simp)
      have hr2 := mkK_range (show mkK S.made (l[(i + 1) % l.length]'(Nat.mod_lt _ hl)) ≠ false by rw [h3]; simp)
      obtain ⟨q, hq⟩ := Int.eq_ofNat_of_zero_le hr.1
      have hqt : q < S.tks.length := by have := hS.len; omega
      unfold mayS mayMade
      rw [List.mem_filter]
      refine ⟨mem_mayList.2 ?_, h3⟩
      rw [hq] at h2 ⊢
      rw [taskAt_get (by simpa using hqt), List.getElem_map]
      rw [tk_at hqt] at h2
      have := hS.ten
      exact ⟨hS.okT hqt, by omega, by omega, h2⟩
    · have h1 := (hc 0 hl).1
      have hr := mkK_range (show mkK S.made l[0] ≠ false by rw [h1]; simp)
      obtain ⟨q, hq⟩ := Int.eq_ofNat_of_zero_le hr.1
      rw [hq]
      exact hw q (by omega)
theorem specAllL_ok {S : Sh} : ∀ (ks out : List Int), (∀ k ∈ ks, (specKeyP S k).2 = true) → (specAllL S ks out).2 = true := by
  intro ks
  induction ks with
  | nil => intro out _; rfl
  | cons k ks ih =>
    intro out h
    rw [specAllL, if_pos (h k (List.mem_cons_self ..))]
    exact ih _ (fun j hj => h j (List.mem_cons_of_mem _ hj))
theorem safe_build {S : Sh} (hS : S.Ok) (h : safeP S.made (S.tks.map Tk.enc) = true) : (buildAllP S).2 = true := by
  rw [all_same hS]
  exact specAllL_ok _ _ fun k _ => safe_all hS h k
end Go.Proofs.Ytkbblekengdhaaa

set_option linter.unusedVariables false
set_option linter.unusedSimpArgs false
namespace Go.Proofs.Ytkbblekengdhaaa
open Go Go.RowKit

/-! what a task fetches, each once -/
def usesL : List (Int × Int) → List Int → List Int
  | [], out => out
  | f :: fs, out => usesL fs (if out.contains f.1 then out else out ++ [f.1])
def onceL2 : List (Int × Int) → List (Int × Int) → List (Int × Int)
  | [], out => out
  | f :: fs, out => onceL2 fs (if out.any (fun g => g.1 == f.1) then out else out ++ [f])
theorem any_keys (out : List (Int × Int)) (k : Int) : out.any (fun g => g.1 == k) = (out.map Prod.fst).contains k := by
  induction out with
  | nil => rfl
  | cons g gs ih =>
    rw [List.any_cons, List.map_cons, List.contains_cons, ih]
    congr 1
    rw [Bool.eq_iff_iff, beq_iff_eq, beq_iff_eq]
    exact eq_comm
theorem once_map : ∀ (l out : List (Int × Int)), (onceL2 l out).map Prod.fst = usesL l (out.map Prod.fst) := by
  intro l
  induction l with
  | nil => intro out; rfl
  | cons f fs ih =>
    intro out
    rw [onceL2, usesL, ih, any_keys]
    split
    · rfl
    · rw [List.map_append]; rfl
theorem usesL_mem : ∀ (l : List (Int × Int)) (out : List Int) (j : Int), j ∈ usesL l out ↔ j ∈ out ∨ ∃ f ∈ l, f.1 = j := by
  intro l
  induction l with
  | nil => intro out j; simp [usesL]
  | cons f fs ih =>
    intro out j
    rw [usesL, ih]
    by_cases h : out.contains f.1 = true
    · rw [if_pos h]
      have hf : f.1 ∈ out := by simpa using h
      constructor
      · rintro (h | ⟨g, hg, e⟩)
        · exact .inl h
        · exact .inr ⟨g, List.mem_cons_of_mem _ hg, e⟩
      · rintro (h | ⟨g, hg, e⟩)
        · exact .inl h
        · rcases List.mem_cons.1 hg with rfl | hg
          · exact .inl (e ▸ hf)
          · exact .inr ⟨g, hg, e⟩
    · rw [if_neg h]
      constructor
      · rintro (h | ⟨g, hg, e⟩)
        · rcases List.mem_append.1 h with h | h
          · exact .inl h
          · exact .inr ⟨f, List.mem_cons_self .., (List.mem_singleton.1 h).symm⟩
        · exact .inr ⟨g, List.mem_cons_of_mem _ hg, e⟩
      · rintro (h | ⟨g, hg, e⟩)
        · exact .inl (List.mem_append_left _ h)
        · rcases List.mem_cons.1 hg with rfl | hg
          · exact .inl (List.mem_append_right _ (by rw [e]; exact List.mem_singleton.2 rfl))
          · exact .inr ⟨g, hg, e⟩
theorem onceL2_length : ∀ (l out : List (Int × Int)), (onceL2 l out).length ≤ l.length + out.length := by
  intro l
  induction l with
  | nil => intro out; simp [onceL2]
  | cons f fs ih =>
    intro out
    rw [onceL2]
    by_cases h : out.any (fun g => g.1 == f.1) = true
    · rw [if_pos h]; have := ih out; simp only [List.length_cons]; omega
    · rw [if_neg h]; have := ih (out ++ [f]); simp only [List.length_cons, List.length_append, List.length_nil] at this ⊢; omega
theorem usesL_length : ∀ (l : List (Int × Int)) (out : List Int), (usesL l out).length ≤ l.length + out.length := by
  intro l
  induction l with
  | nil => intro out; simp [usesL]
  | cons f fs ih =>
    intro out
    rw [usesL]
    by_cases h : out.contains f.1 = true
    · rw [if_pos h]; have := ih out; simp only [List.length_cons]; omega
    · rw [if_neg h]; have := ih (out ++ [f.1]); simp only [List.length_cons, List.length_append, List.length_nil] at this ⊢; omega

theorem fetched_itr (t : Tk) (xs : List Int) : fetchedP t xs = t.itr.run (fetF xs) [] := Tk.run_itr _ (fun s k h => by simp [fetF] at h) t []
theorem fet_length (xs : List Int) : ∀ (m : Itr) (n : Nat) (l : List (Int × Int)), m.le n → (m.run (fetF xs) l).2.length ≤ l.length + n := by
  intro m
  induction m with
  | done v => intro n l _; simp [Itr.run]
  | ask k c ih =>
    intro n l h
    cases n with
    | zero => exact h.elim
    | succ n =>
      rw [Itr.run_yes (by simp [fetF])]
      have := ih (fetF xs l k).1.1 n (fetF xs l k).2 (h _)
      simp [fetF] at this ⊢
      omega
theorem fetched_length (t : Tk) (xs : List Int) : (fetchedP t xs).2.length ≤ t.fets := by
  rw [fetched_itr]
  have := fet_length xs t.itr t.fets [] (Tk.itr_le t)
  simpa using this
theorem fet_keys (xs : List Int) : ∀ (m : Itr) (l : List (Int × Int)), m.ok → (∀ f ∈ l, 0 ≤ f.1 ∧ f.1 ≤ 9 ∧ f.2 = atK xs f.1) → ∀ f ∈ (m.run (fetF xs) l).2, 0 ≤ f.1 ∧ f.1 ≤ 9 ∧ f.2 = atK xs f.1 := by
  intro m
  induction m with
  | done v => intro l _ h; exact h
  | ask k c ih =>
    intro l h hl
    obtain ⟨h0, h9, hc⟩ := h
    rw [Itr.run_yes (by simp [fetF])]
    refine ih _ _ (hc _) (fun f hf => ?_)
    rcases List.mem_append.1 hf with hf | hf
    · exact hl f hf
    · rw [List.mem_singleton.1 hf]; exact ⟨h0, h9, rfl⟩
theorem fetched_keys {t : Tk} (h : t.ok) (xs : List Int) : ∀ f ∈ (fetchedP t xs).2, 0 ≤ f.1 ∧ f.1 ≤ 9 ∧ f.2 = atK xs f.1 := by
  rw [fetched_itr]
  exact fet_keys xs t.itr [] (Tk.itr_ok t h) (fun f hf => by cases hf)
def usesP (t : Tk) (xs : List Int) : List Int := usesL (fetchedP t xs).2 []
theorem usesP_length (t : Tk) (xs : List Int) : (usesP t xs).length ≤ t.fets := by
  have h1 := usesL_length (fetchedP t xs).2 []
  have h2 := fetched_length t xs
  unfold usesP
  simp at h1; omega
theorem usesP_keys {t : Tk} (h : t.ok) (xs : List Int) : ∀ j ∈ usesP t xs, 0 ≤ j ∧ j ≤ 9 := by
  intro j hj
  rcases (usesL_mem _ _ _).1 hj with h1 | ⟨f, hf, rfl⟩
  · cases h1
  · have := fetched_keys h xs f hf
    exact ⟨this.1, this.2.1⟩

/-! whether an order fits -/
def fitAt (S : Sh) (vals order : List Int) (i : Nat) (k : Int) : Bool := mkK S.made k && !(order.take i).contains k && (usesP (S.tk k) vals).all (fun j => !mkK S.made j || (order.take i).contains j)
def fitsL (S : Sh) (vals order : List Int) (i : Nat) : Bool := (List.range' i (order.length - i)).all fun j => fitAt S vals order j (order.getD j 0)
def fitsP (S : Sh) (vals order : List Int) : Bool := fitsL S vals order 0
theorem fitsL_step {S : Sh} {vals order : List Int} {i : Nat} (h : i < order.length) : fitsL S vals order i = (fitAt S vals order i order[i] && fitsL S vals order (i + 1)) := by
  unfold fitsL
  obtain ⟨n, hn⟩ : ∃ n, order.length - i = n + 1 := ⟨order.length - i - 1, by omega⟩
  rw [hn, List.range'_succ, List.all_cons, show order.length - (i + 1) = n by omega]
  congr 2
  simp [h]
theorem fitsL_end {S : Sh} {vals order : List Int} {i : Nat} (h : ¬ i < order.length) : fitsL S vals order i = true := by
  unfold fitsL
  rw [show order.length - i = 0 by omega]
  rfl
theorem fitsP_iff {S : Sh} {vals order : List Int} : fitsP S vals order = true ↔ ∀ i (hi : i < order.length), fitAt S vals order i order[i] = true := by
  unfold fitsP fitsL
  rw [List.all_eq_true]
  constructor
  · intro h i hi
    have := h i (by rw [List.mem_range']; exact ⟨i, by omega, by omega⟩)
    simpa [hi] using this
  · intro h j hj
    rw [List.mem_range'] at hj
    obtain ⟨q, hq, rfl⟩ := hj
    have hl : q < order.length := by omega
    have := h q hl
    simpa [hl] using this
/-- an order without its last key -/
theorem fits_last {S : Sh} {vals order : List Int} (h : fitsP S vals order = true) : fitsP S vals (order.take (order.length - 1)) = true := by
  rw [fitsP_iff] at h ⊢
  intro i hi
  rw [List.length_take] at hi
  have h1 := h i (by omega)
  rw [List.getElem_take]
  unfold fitAt at h1 ⊢
  rw [List.take_take, Nat.min_eq_left (by omega)]
  exact h1
end Go.Proofs.Ytkbblekengdhaaa
