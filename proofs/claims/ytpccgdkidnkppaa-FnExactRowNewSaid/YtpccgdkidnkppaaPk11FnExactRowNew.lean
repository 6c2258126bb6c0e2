import Derived.Test.YtpccgdkidnkppaaPk1FnExactRowNew
import Derived.Test.YtpccgdkidnkppaaPk2FnExactRowNew
import Derived.Test.YtpccgdkidnkppaaPk7FnExactRowNew
import Derived.Test.YtpccgdkidnkppaaPk8FnExactRowNew
import Derived.Test.YtpccgdkidnkppaaPk10FnExactRowNew
set_option linter.unusedVariables false
set_option linter.unusedSimpArgs false
namespace Go.Proofs.Ytpccgdkidnkppaa
open Go Go.RowKit

set_option maxHeartbeats 1000000 in
theorem l91Num_calls (R : RdEnv) (hR : R.Good) (p : Nat) (hp : p + 1 ≤ 1000000) (b c : Nat) (xs : List Int) (w : World) (h : RdAt R p w) (h1 : 1 ≤ xs.length) (hc : xs.length ≤ c) (hm : c ≤ 1000) (hb : b < w.heap.size) (hg : b ≠ R.g)
    (hx : ∀ i (hi : i < xs.length), w.cell? ⟨b, i, none⟩ = some (.int .i64 xs[i])) :
    Calls Try.prog 117 #[.pointer (some ⟨R.g, 0, none⟩), .slice (some ⟨b, 0, none⟩) xs.length c] w fun e w' => ∃ v, e = .returned (.int .i64 v) ∧ v ∈ xs ∧ RdAt R (p + 1) w' ∧ Turn (· = R.g) (· = R.g) w w' := by
  have hk := pick_calls R hR p (by omega) xs.length w h
  replace hk := Lib.hid hk
  replace hx := Lib.hid hx
  replace h := Lib.hid h
  go_enter Try.func117, Try.ntmps117
  go_wp2_with fail
  refine hk.out.mono ?_
  rintro e w1 ⟨v, rfl, hv0, hv1, hr, ht⟩
  obtain ⟨q, rfl⟩ := Int.eq_ofNat_of_zero_le hv0
  have hq : q < xs.length := by omega
  have y := (ht.cell q hb hg).trans (hx.out q hq)
  have hz : b < w1.heap.size := by have := ht.size; omega
  replace hr := Lib.hid hr
  replace ht := Lib.hid ht
  go_wp2_with fail
  go_ret
  exact ⟨xs[q], rfl, List.getElem_mem _, hr.out, ht.out⟩

/-- a row of numbers that grows while bytes are read; the sheet's box is the first new block -/
structure InSt (R : RdEnv) (w : World) (s1 s2 : Value) (p : Nat) (xs : List Int) (v : Value) (wr : World) : Prop where
  rd : RdAt R p wr
  turn : Turn (· = R.g) (· = R.g) w wr
  own : wr.ownsRow w.heap.size 3 1 v xs.length (ints xs)
  box : wr.heap[w.heap.size]? = some (.cells #[s1, s2] 31 (0, 0))
  glt : R.g < w.heap.size
  bw : R.B ≤ w.heap.size
section
variable {R : RdEnv} {w wr w2 : World} {s1 s2 v : Value} {p : Nat} {xs : List Int}
theorem InSt.step (h : InSt R w s1 s2 p xs v wr) {p2 : Nat} (rd : RdAt R p2 w2) (t : Turn (· = R.g) (· = R.g) wr w2) : InSt R w s1 s2 p2 xs v w2 :=
  ⟨rd, h.turn.trans t, ownsRow_block h.own (fun i hi => t.block i (h.own.lt i hi).2 (fun e => by have := (h.own.lt i hi).1; have := h.glt; omega)), (t.block _ (block_lt h.box) (fun e => by have := h.glt; omega)).trans h.box, h.glt, h.bw⟩
theorem InSt.alloc (h : InSt R w s1 s2 p xs v wr) (o : Obj) : InSt R w s1 s2 p xs v (wr.alloc o) :=
  h.step (h.rd.up (below_al (Below.refl _ _) o)) ((Turn.refl _ _).alloc o)
theorem InSt.ne (h : InSt R w s1 s2 p xs v wr) : v.ownBlock ≠ some w.heap.size := ownsRow_ne h.own h.box (fun c e => by cases e)
theorem InSt.app (h : InSt R w s1 s2 p xs v wr) {o : Obj} {x : Int} {v' : Value} (hg : (wr.alloc o).grownBy w2 v.ownBlock) (ho : w2.ownsRow w.heap.size 3 1 v' (xs.length + 1) (ints xs ++ [.int .i64 x])) :
    InSt R w s1 s2 p (xs ++ [x]) v' w2 := by
  have hlt := h.own.lt
  have hz : w.heap.size ≤ wr.heap.size := h.turn.size
  have hb : Below w.heap.size wr w2 := (below_al' (Below.refl _ _) o hz).grown hg (by simp; omega) (fun k hk => (hlt k hk).1)
  refine ⟨⟨(hb.block _ h.glt).trans h.rd.blk, h.rd.below.trans (hb.mono h.bw), Nat.le_trans h.rd.size hb.size⟩, ?_, ?_, (far_grown hg (block_lt h.box) h.ne).trans h.box, h.glt, h.bw⟩
  · exact ⟨hb.os.trans h.turn.os, hb.tape.trans h.turn.tape, hb.output.trans h.turn.output, Nat.le_trans hz hb.size, fun i hi hF => (hb.block i hi).trans (h.turn.block i hi hF), h.turn.fresh⟩
  · simpa [ints_append, ints] using ho
end
/-- what a draw of inputs brings -/
def DrawIn (R : RdEnv) (p c m : Nat) (w : World) (e : Ending) (w' : World) : Prop :=
  ∃ p' xs v, e = .returned v ∧ xs.length ≤ m ∧ p ≤ p' ∧ p' ≤ p + c ∧ RdAt R p' w' ∧ Turn (· = R.g) (· = R.g) w w' ∧ w'.ownsRow w.heap.size 3 1 v xs.length (ints xs)

set_option maxHeartbeats 2000000 in
theorem l91Inputs_calls (R : RdEnv) (hR : R.Good) (p : Nat) (hp : p + 100 ≤ 1000000) (Am At : Option Addr) (nm cm nt ct : Nat) (w : World) (h : RdAt R p w) (hn : nm ≤ 20) :
    Calls Try.prog 68 #[.pointer (some ⟨R.g, 0, none⟩), .agg #[.slice Am nm cm, .slice At nt ct]] w (DrawIn R p 100 (nm + 1) w) := by
  have hs : InSt R w (.slice Am nm cm) (.slice At nt ct) p [] (.slice (some ⟨w.heap.size + 1, 0, none⟩) 0 0) ((w.alloc (.cells #[.slice Am nm cm, .slice At nt ct] 31 (0, 0))).alloc (.cells #[] 3 (0, 0))) :=
    ⟨h.up (below_al (below_al (Below.refl _ _) _) _), ((Turn.refl _ _).alloc _).alloc _, by simpa [ints] using World.ownsRow_made (base := w.heap.size) (w.alloc (.cells #[.slice Am nm cm, .slice At nt ct] 31 (0, 0))) #[] 0 (by simp) (by simp [maxLen]) rfl, (heap_old (by simp)).trans (heap_new rfl), block_lt h.blk, h.size⟩
  have h1 := pick_calls R hR p (by omega) 2 _ hs.rd
  replace h1 := Lib.hid h1
  replace hs := Lib.hid hs
  clear h
  go_enter Try.func68, Try.ntmps68
  go_wp2_with fail
  refine h1.out.mono ?_
  rintro e w1 ⟨k, rfl, hk0, hk1, hr, ht⟩
  have hs1 := hs.out.step hr ht
  replace hs1 := Lib.hid hs1
  clear h1 hs hr ht
  go_wp2_with fail
  generalize (k == 0) = sm
  go_loopw [5, 7] (fun o i wr => ∃ (j : Nat) (xs : List Int) (p2 : Nat), j ≤ nm ∧ xs.length = j ∧ p2 ≤ p + 1 + 2 * j ∧ p ≤ p2 ∧ i = .int .i64 j ∧ Hid (InSt R w (.slice Am nm cm) (.slice At nt ct) p2 xs o wr)) (fun _ i _ => nm - (intOf i).toNat)
  case atStart => exact ⟨0, [], p + 1, Nat.zero_le _, rfl, by omega, by omega, rfl, hs1⟩
  case round =>
    obtain ⟨j, xs, p2, hj, hlen, hp2, hpp, rfl, hL⟩ := hrel
    have b0 : wr.cell? ⟨w.heap.size, 0, none⟩ = some (.slice Am nm cm) := cellm hL.out.box 0
    have hz := block_lt hL.out.box
    by_cases hlt : j < nm
    · have hc := pick_calls R hR p2 (by omega) 97 wr hL.out.rd
      replace hc := Lib.hid hc
      go_wp2_with fail
      refine hc.out.mono ?_
      rintro e w2 ⟨x, rfl, hx0, hx1, hr2, ht2⟩
      have hL2 := hL.out.step hr2 ht2
      clear hc hr2 ht2 hL b0 hz
      replace hL2 := Lib.hid hL2
      have fin : ∀ (x : Int) (p3 : Nat) (w3 : World), True := fun _ _ _ => trivial
      cases sm with
      | true =>
        have hc := pick_calls R hR (p2 + 1) (by omega) 3 w2 hL2.out.rd
        replace hc := Lib.hid hc
        go_wp2_with fail
        refine hc.out.mono ?_
        rintro e w3 ⟨x3, rfl, hx30, hx31, hr3, ht3⟩
        have hL3 := hL2.out.step hr3 ht3
        clear hc hr3 ht3 hL2
        replace hL3 := Lib.hid hL3
        go_wp2_with (at_builtin; go_loud (with_reducible refine wpList_app1 (by rfl) (.tmp 25) (.tmp 27) 26 (by rfl) intTy w.heap.size u5 xs.length (ints xs) (by with_unfolding_all rfl) (hL3.out.own.alloc _) w3.heap.size 1 [.int .i64 x3] (by with_unfolding_all rfl) (by with_unfolding_all rfl) ⟨_, _, heap_alloc_new w3 _, rfl⟩ (one_int _ _) ?_ ?_ ?_ ?_))
        · unfold maxLen; omega
        · omega
        · have := hL3.out.turn.size; simp; omega
        intro g cap w4 hown hgrow hat
        have hL4 := hL3.out.app (x := x3) (v' := .slice (some ⟨g, 0, none⟩) (j + 1) cap) hgrow (by rw [hlen]; exact hown)
        replace hL4 := Lib.hid hL4
        clear hown hgrow hat hL3
        go_wp2_with fail
        go_roundw
        case rel => exact ⟨j + 1, _, p2 + 1 + 1, by omega, by simp [hlen], by omega, by omega, by go_num, hL4⟩
        case measure => simp [intOf]; omega
      | false =>
        go_wp2_with (at_builtin; go_loud (with_reducible refine wpList_app1 (by rfl) (.tmp 25) (.tmp 27) 26 (by rfl) intTy w.heap.size u5 xs.length (ints xs) (by with_unfolding_all rfl) (hL2.out.own.alloc _) w2.heap.size 1 [.int .i64 x] (by with_unfolding_all rfl) (by with_unfolding_all rfl) ⟨_, _, heap_alloc_new w2 _, rfl⟩ (one_int _ _) ?_ ?_ ?_ ?_))
        · unfold maxLen; omega
        · omega
        · have := hL2.out.turn.size; simp; omega
        intro g cap w4 hown hgrow hat
        have hL4 := hL2.out.app (x := x) (v' := .slice (some ⟨g, 0, none⟩) (j + 1) cap) hgrow (by rw [hlen]; exact hown)
        replace hL4 := Lib.hid hL4
        clear hown hgrow hat hL2
        go_wp2_with fail
        go_roundw
        case rel => exact ⟨j + 1, _, p2 + 1, by omega, by simp [hlen], by omega, by omega, by go_num, hL4⟩
        case measure => simp [intOf]; omega
    · have hc := pick_calls R hR p2 (by omega) 25 wr hL.out.rd
      replace hc := Lib.hid hc
      go_wp2_with fail
      refine hc.out.mono ?_
      rintro e w2 ⟨x, rfl, hx0, hx1, hr2, ht2⟩
      have hL2 := hL.out.step hr2 ht2
      clear hc hr2 ht2 hL b0 hz
      replace hL2 := Lib.hid hL2
      by_cases hx : x = 0
      · subst hx
        have hL3 := hL2.out.alloc (.cells #[.int .i64 0, .int .i64 97, .int .i64 (-1)] 3 (0, 0))
        have hnum := l91Num_calls R hR (p2 + 1) (by omega) w2.heap.size 3 [0, 97, -1] _ hL3.rd (by simp) (by simp) (by omega) (by simp) (by have h1 := hL2.out.glt; have h2 := hL2.out.turn.size; omega)
          (by intro i hi; rw [cellm (heap_new rfl) i]; rcases (show i = 0 ∨ i = 1 ∨ i = 2 by simp at hi; omega) with rfl | rfl | rfl <;> rfl)
        replace hL3 := Lib.hid hL3
        replace hnum := Lib.hid hnum
        clear hL2
        go_wp2_with fail
        refine hnum.out.mono ?_
        rintro e w3 ⟨x3, rfl, _, hr3, ht3⟩
        have hL4 := hL3.out.step hr3 ht3
        replace hL4 := Lib.hid hL4
        clear hL3 hnum hr3 ht3
        go_wp2_with (at_builtin; go_loud (with_reducible refine wpList_app1 (by rfl) (.tmp 32) (.tmp 36) 26 (by rfl) intTy w.heap.size u5 xs.length (ints xs) (by with_unfolding_all rfl) (hL4.out.own.alloc _) w3.heap.size 1 [.int .i64 x3] (by with_unfolding_all rfl) (by with_unfolding_all rfl) ⟨_, _, heap_alloc_new w3 _, rfl⟩ (one_int _ _) ?_ ?_ ?_ ?_))
        · unfold maxLen; omega
        · omega
        · have := hL4.out.turn.size; simp; omega
        intro g cap w4 hown hgrow hat
        have hL5 := hL4.out.app (x := x3) (v' := .slice (some ⟨g, 0, none⟩) (j + 1) cap) hgrow (by rw [hlen]; exact hown)
        replace hL5 := Lib.hid hL5
        clear hown hgrow hat hL4
        go_wp2_with fail
        go_ret
        exact ⟨p2 + 1 + 1, xs ++ [x3], _, rfl, by simp; omega, by omega, by omega, hL5.out.rd, hL5.out.turn, hL5.out.own⟩
      · have hx' : (x == 0) = false := by simp [hx]
        go_wp2_with fail
        go_ret
        exact ⟨p2 + 1, xs, u5, rfl, by omega, by omega, by omega, hL2.out.rd, hL2.out.turn, hL2.out.own⟩
end Go.Proofs.Ytpccgdkidnkppaa

set_option linter.unusedVariables false
set_option linter.unusedSimpArgs false
namespace Go.Proofs.Ytpccgdkidnkppaa
open Go Go.RowKit

theorem boolTy : ElemTy Try.prog 22 4 (.bool false) 1 1 := ⟨Try.underlying22, by kernel_rfl, rfl, by omega⟩
theorem taskTy : ElemTy Try.prog 29 48 (.agg #[.int .i64 0, .int .i64 0, .slice none 0 0]) 3 40 := ⟨Try.underlying29, by kernel_rfl, rfl, by omega⟩

def bools (l : List Bool) : List Value := l.map fun b => Value.bool b
def cells3 (l : List (Value × Value × Value)) : List Value := l.flatMap fun t => [t.1, t.2.1, t.2.2]
theorem cells3_length (l : List (Value × Value × Value)) : (cells3 l).length = l.length * 3 := by
  induction l with
  | nil => rfl
  | cons t l ih => simp only [cells3, List.flatMap_cons, List.length_append, List.length_cons, List.length_nil] at *; omega
theorem cells3_get : ∀ (l : List (Value × Value × Value)) (i : Nat) (h : i < l.length), (cells3 l)[i * 3]? = some l[i].1 ∧ (cells3 l)[i * 3 + 1]? = some l[i].2.1 ∧ (cells3 l)[i * 3 + 2]? = some l[i].2.2 := by
  intro l
  induction l with
  | nil => intro i h; simp at h
  | cons t l ih =>
    intro i h
    cases i with
    | zero => exact ⟨rfl, rfl, rfl⟩
    | succ i =>
      have := ih i (by simpa using h)
      rw [show (i + 1) * 3 = i * 3 + 3 by omega, show i * 3 + 3 + 1 = i * 3 + 1 + 3 by omega, show i * 3 + 3 + 2 = i * 3 + 2 + 3 by omega]
      exact this

/-- a drawn sheet: two rows, and the rows of parts that G tells of, in blocks from lo on -/
structure Sht (g B lo : Nat) (G : Rows) (made : List Bool) (ts : List (Value × Value × Value)) (vm vt : Value) (w : World) : Prop where
  om : w.ownsRow lo 4 1 vm made.length (bools made)
  ot : w.ownsRow lo 48 3 vt ts.length (cells3 ts)
  ty : TyH g B G w
  tv : ∀ t ∈ ts, TyV G 2 (.agg #[t.1, t.2.1, t.2.2])
  sep : ∀ i x, vt.ownBlock = some i → G i ≠ some x
  new : ∀ b x, G b = some x → lo ≤ b
  glo : g < lo
section
variable {g B lo : Nat} {G G2 : Rows} {made : List Bool} {ts : List (Value × Value × Value)} {vm vt : Value} {w w2 : World}
theorem Sht.mG (h : Sht g B lo G made ts vm vt w) (i : Nat) (x : Nat × Nat) (hi : vm.ownBlock = some i) : G i ≠ some x := by
  intro hx
  obtain ⟨_, _, cs, hb, _⟩ := h.ty i x.1 x.2 hx
  exact ownsRow_ne h.om hb (fun c e => by cases e) hi
theorem Sht.mt (h : Sht g B lo G made ts vm vt w) (i : Nat) (hi : vm.ownBlock = some i) : vt.ownBlock ≠ some i := by
  intro e
  have hlt := (h.ot.lt i e).2
  obtain ⟨ob, hob⟩ : ∃ ob, w.heap[i]? = some ob := ⟨w.heap[i], by simp [hlt]⟩
  by_cases hc : ∃ c, ob = .cells c 4 (0, 0)
  · obtain ⟨c, rfl⟩ := hc
    exact ownsRow_ne h.ot hob (fun c' e' => by cases e') e
  · exact ownsRow_ne h.om hob (fun c' e' => hc ⟨c', e'⟩) hi
theorem Sht.move (h : Sht g B lo G made ts vm vt w) {F F' : Nat → Prop} (t : Turn F F' w w2) (hF : ∀ i, F i → i = g ∨ dom G i) (he : Ext G G2 w.heap.size) (ty : TyH g B G2 w2) (hlo : lo ≤ w.heap.size) : Sht g B lo G2 made ts vm vt w2 :=
  ⟨ownsRow_block h.om (fun i hi => t.block i (h.om.lt i hi).2 (fun hf => (hF i hf).elim (fun e => by have := (h.om.lt i hi).1; have := h.glo; omega) (fun ⟨x, hx⟩ => h.mG i x hi hx))),
   ownsRow_block h.ot (fun i hi => t.block i (h.ot.lt i hi).2 (fun hf => (hF i hf).elim (fun e => by have := (h.ot.lt i hi).1; have := h.glo; omega) (fun ⟨x, hx⟩ => h.sep i x hi hx))),
   ty, fun t ht => (h.tv t ht).ext he (Nat.le_refl _), fun i x hi hx => (he.new i x hx).elim (h.sep i x hi) (fun hn => by have := (h.ot.lt i hi).2; omega),
   fun b x hx => (he.new b x hx).elim (h.new b x) (fun hn => by omega), h.glo⟩
theorem Sht.pick (h : Sht g B lo G made ts vm vt w) {F' : Nat → Prop} (t : Turn (· = g) F' w w2) (hlo : lo ≤ w.heap.size) : Sht g B lo G made ts vm vt w2 :=
  h.move t (fun i e => .inl e) (Ext.refl _ _) (h.ty.turng t) hlo
theorem Sht.set (h : Sht g B lo G made ts vm vt w) {b : Nat} (o : Nat) (v : Value) (h1 : vm.ownBlock ≠ some b) (h2 : vt.ownBlock ≠ some b) (h3 : ∀ x, G b ≠ some x) : Sht g B lo G made ts vm vt (w.setCell ⟨b, o, none⟩ v) :=
  ⟨ownsRow_block h.om (fun i hi => setCell_far (own_far hi h1)), ownsRow_block h.ot (fun i hi => setCell_far (own_far hi h2)), h.ty.set v h3, h.tv, h.sep, h.new, h.glo⟩
theorem Sht.app_made (h : Sht g B lo G made ts vm vt w) {v' : Value} {x : Bool} (hg : w.grownBy w2 vm.ownBlock) (ho : w2.ownsRow lo 4 1 v' (made.length + 1) (bools made ++ [.bool x])) : Sht g B lo G (made ++ [x]) ts v' vt w2 :=
  ⟨by simpa [bools] using ho, ownsRow_block h.ot (fun i hi => hg.block i (h.ot.lt i hi).2 (fun e => h.mt i e.symm hi)),
   fun b r m hb => by
     obtain ⟨h1, h2, cs, h3, h4⟩ := h.ty b r m hb
     exact ⟨h1, h2, cs, (hg.block b (block_lt h3) (fun e => h.mG b _ e.symm hb)).trans h3, h4⟩,
   h.tv, h.sep, h.new, h.glo⟩
theorem Sht.app_task (h : Sht g B lo G made ts vm vt w) {v' : Value} {x y z : Value} (hg : w.grownBy w2 vt.ownBlock) (ho : w2.ownsRow lo 48 3 v' (ts.length + 1) (cells3 ts ++ [x, y, z])) (hv : TyV G 2 (.agg #[x, y, z]))
    (hat : ∀ i, v'.ownBlock = some i → vt.ownBlock = some i ∨ i = w.heap.size) : Sht g B lo G made (ts ++ [(x, y, z)]) vm v' w2 :=
  ⟨ownsRow_block h.om (fun i hi => hg.block i (h.om.lt i hi).2 (fun e => h.mt i hi e.symm)), by simpa [cells3] using ho,
   fun b r m hb => by
     obtain ⟨h1, h2, cs, h3, h4⟩ := h.ty b r m hb
     exact ⟨h1, h2, cs, (hg.block b (block_lt h3) (fun e => h.sep b _ e.symm hb)).trans h3, h4⟩,
   fun t ht => (List.mem_append.1 ht).elim (h.tv t) (fun e => by rw [List.mem_singleton.1 e]; exact hv),
   fun i x hi hx => (hat i hi).elim (fun e => h.sep i x e hx) (fun e => by have := h.ty.lt hx; omega), h.new, h.glo⟩
theorem ownsRow_cells {base : Nat} {e : TypeId} {size : Nat} {v : Value} {n : Nat} {xs : List Value} (h : w.ownsRow base e size v n xs) : ∃ A c, v = .slice A n c ∧ n ≤ c ∧ c ≤ maxLen ∧ ∀ i (hi : i < xs.length), ∃ b, A = some ⟨b, 0, none⟩ ∧ b < w.heap.size ∧ w.cell? ⟨b, i, none⟩ = some xs[i] := by
  obtain ⟨h1, ⟨rfl, rfl⟩ | ⟨g, cap, cur, rfl, hb, hg, hn, hc, hs, ht⟩⟩ := h
  · exact ⟨none, 0, rfl, Nat.le_refl _, by simp [maxLen], fun i hi => by simp at h1; simp [h1] at hi⟩
  · refine ⟨_, cap, rfl, hn, hc, fun i hi => ⟨g, rfl, block_lt hg, ?_⟩⟩
    rw [cellm hg]
    have hxi : xs[i]? = some xs[i] := by simp
    rw [← hxi, ← ht, List.getElem?_take_of_lt (by omega)]
    simp
/-- .. read as a sheet -/
theorem Sht.reads (h : Sht g B lo G made ts vm vt w) : ∃ Am cm At ct tasks, vm = .slice Am made.length cm ∧ vt = .slice At tasks.length ct ∧ tasks.length = ts.length ∧ SheetAt w.heap.size w Am cm At ct made tasks ∧ ∀ T ∈ tasks, nodes T ≤ nb 2 := by
  obtain ⟨Am, cm, rfl, hm1, hm2, hm⟩ := ownsRow_cells h.om
  obtain ⟨At, ct, rfl, ht1, ht2, ht⟩ := ownsRow_cells h.ot
  have h1 : ∀ i, ∃ T, ∀ (hi : i < ts.length), TaskIs w.heap.size w (.agg #[ts[i].1, ts[i].2.1, ts[i].2.2]) T ∧ nodes T ≤ nb 2 := by
    intro i
    by_cases hi : i < ts.length
    · obtain ⟨T, hT⟩ := TyV.reads h.ty 2 _ (h.tv ts[i] (List.getElem_mem _))
      exact ⟨T, fun _ => hT⟩
    · exact ⟨default, fun hh => (hi hh).elim⟩
  obtain ⟨f, hf⟩ := Classical.axiomOfChoice h1
  have hl := cells3_length ts
  refine ⟨Am, cm, At, ct, (List.range ts.length).map f, rfl, by simp, by simp, ⟨hm1, hm2, by simpa using ht1, ht2, fun i hi => ?_, PartsIs.of_get (fun i hi => ?_)⟩, fun T hT => ?_⟩
  · obtain ⟨b, e, hb, hc⟩ := hm i (by simpa [bools] using hi)
    exact ⟨b, 0, e, hb, by rw [Nat.zero_add, hc]; simp [bools]⟩
  · have hi' : i < ts.length := by simpa using hi
    obtain ⟨k0, k1, k2⟩ := cells3_get ts i hi'
    obtain ⟨b, e, hb, c0⟩ := ht (i * 3) (by omega)
    obtain ⟨b1, e1, _, c1⟩ := ht (i * 3 + 1) (by omega)
    obtain ⟨b2, e2, _, c2⟩ := ht (i * 3 + 2) (by omega)
    subst e
    cases e1; cases e2
    refine ⟨b, 0, _, _, _, rfl, hb, ?_, ?_, ?_, by simpa using (hf i hi').1⟩
    · rw [Nat.zero_add, Nat.zero_add, c0, ← k0]; simp
    · rw [Nat.zero_add, Nat.zero_add, c1, ← k1]; simp
    · rw [Nat.zero_add, Nat.zero_add, c2, ← k2]; simp
  · obtain ⟨i, hi, rfl⟩ := List.mem_map.1 hT
    exact (hf i (by simpa using hi)).2
end
end Go.Proofs.Ytpccgdkidnkppaa

set_option linter.unusedVariables false
set_option linter.unusedSimpArgs false
namespace Go.Proofs.Ytpccgdkidnkppaa
open Go Go.RowKit

def noRows : Rows := fun _ => none
/-- the worlds in a run of l91Sheet: the result's block is the next one, the sheet's box is block m -/
structure ShSt (R : RdEnv) (w : World) (m p : Nat) (G : Rows) (made : List Bool) (ts : List (Value × Value × Value)) (vm vt : Value) (wr : World) : Prop where
  rd : RdAt R p wr
  turn : Turn (· = R.g) (· = R.g) w wr
  sh : Sht R.g R.B w.heap.size G made ts vm vt wr
  res : wr.heap[w.heap.size]? = some (.cells #[.slice none 0 0, .slice none 0 0] 31 (0, 0))
  box : wr.heap[m]? = some (.cells #[vm, vt] 31 (0, 0))
  bw : R.B ≤ w.heap.size
  hm : w.heap.size < m
section
variable {R : RdEnv} {w wr w2 : World} {m p p2 : Nat} {G G2 : Rows} {made : List Bool} {ts : List (Value × Value × Value)} {vm vt v' : Value}
theorem ShSt.start (h : RdAt R p w) {w1 : World} (hr : RdAt R p2 w1) (ht : Turn (· = R.g) (· = R.g) (w.alloc (.cells #[.slice none 0 0, .slice none 0 0] 31 (0, 0))) w1) :
    ShSt R w w1.heap.size p2 noRows [] [] (.slice none 0 0) (.slice none 0 0) (w1.alloc (.cells #[.slice none 0 0, .slice none 0 0] 31 (0, 0))) := by
  have hg := block_lt h.blk
  have hz : w.heap.size < w1.heap.size := by have := ht.size; simp at this; omega
  exact ⟨hr.up (below_al (Below.refl _ _) _), (((Turn.refl _ _).alloc _).trans ht).alloc _, ⟨World.ownsRow_nil _ _ _ _, World.ownsRow_nil _ _ _ _, fun b r m e => (by cases e), fun t e => (by cases e), fun i x e => (by cases e), fun b x e => (by cases e), hg⟩,
    (heap_old hz).trans ((ht.block _ (by simp) (fun e => by omega)).trans (heap_new rfl)), heap_new rfl, h.size, hz⟩
theorem ShSt.lo (h : ShSt R w m p G made ts vm vt wr) : w.heap.size ≤ wr.heap.size := h.turn.size
theorem ShSt.glt (h : ShSt R w m p G made ts vm vt wr) : R.g < w.heap.size := h.sh.glo
theorem ShSt.resG (h : ShSt R w m p G made ts vm vt wr) (x : Nat × Nat) : G w.heap.size ≠ some x := fun hx => by
  obtain ⟨_, _, cs, hb, _⟩ := h.sh.ty _ x.1 x.2 hx
  have := hb.symm.trans h.res; cases this
theorem ShSt.boxG (h : ShSt R w m p G made ts vm vt wr) (x : Nat × Nat) : G m ≠ some x := fun hx => by
  obtain ⟨_, _, cs, hb, _⟩ := h.sh.ty _ x.1 x.2 hx
  have := hb.symm.trans h.box; cases this
theorem ShSt.ne (h : ShSt R w m p G made ts vm vt wr) : vm.ownBlock ≠ some m ∧ vm.ownBlock ≠ some w.heap.size ∧ vt.ownBlock ≠ some m ∧ vt.ownBlock ≠ some w.heap.size :=
  ⟨ownsRow_ne h.sh.om h.box (fun c e => by cases e), ownsRow_ne h.sh.om h.res (fun c e => by cases e), ownsRow_ne h.sh.ot h.box (fun c e => by cases e), ownsRow_ne h.sh.ot h.res (fun c e => by cases e)⟩
theorem ShSt.move (h : ShSt R w m p G made ts vm vt wr) {F F' : Nat → Prop} (t : Turn F F' wr w2) (hF : ∀ i, F i → i = R.g ∨ dom G i) (rd : RdAt R p2 w2) (he : Ext G G2 wr.heap.size) (ty : TyH R.g R.B G2 w2) : ShSt R w m p2 G2 made ts vm vt w2 := by
  have hg := h.glt
  have hm := h.hm
  have hlo := h.lo
  refine ⟨rd, ⟨t.os.trans h.turn.os, t.tape.trans h.turn.tape, t.output.trans h.turn.output, Nat.le_trans h.lo t.size, fun i hi hn => (t.block i (by omega) (fun hf => ?_)).trans (h.turn.block i hi hn), fun i hi => .inl hi⟩, h.sh.move t hF he ty h.lo, (t.block _ (block_lt h.res) (fun hf => ?_)).trans h.res, (t.block _ (block_lt h.box) (fun hf => ?_)).trans h.box, h.bw, h.hm⟩
  · rcases hF i hf with e | ⟨x, hx⟩
    · exact hn e
    · have := h.sh.new i x hx; omega
  · rcases hF _ hf with e | ⟨x, hx⟩
    · omega
    · exact h.resG x hx
  · rcases hF _ hf with e | ⟨x, hx⟩
    · omega
    · exact h.boxG x hx
theorem ShSt.pick (h : ShSt R w m p G made ts vm vt wr) (rd : RdAt R p2 w2) (t : Turn (· = R.g) (· = R.g) wr w2) : ShSt R w m p2 G made ts vm vt w2 :=
  h.move t (fun i e => .inl e) rd (Ext.refl _ _) (h.sh.ty.turng t)
theorem ShSt.alloc (h : ShSt R w m p G made ts vm vt wr) (o : Obj) : ShSt R w m p G made ts vm vt (wr.alloc o) :=
  h.pick (h.rd.up (below_al (Below.refl _ _) _)) ((Turn.refl _ _).alloc _)
theorem ShSt.lower (h : ShSt R w m p G made ts vm vt wr) (ty : TyH R.g R.B G w2) (t : Turn (dom G) (dom G) wr w2) : ShSt R w m p G made ts vm vt w2 := by
  have hb : Below R.B wr w2 := t.below h.rd.size (fun i ⟨x, hx⟩ => (h.sh.ty i x.1 x.2 hx).1)
  exact h.move t (fun i e => .inr e) (h.rd.kept (t.block _ (block_lt h.rd.blk) (fun ⟨x, hx⟩ => (h.sh.ty _ x.1 x.2 hx).2.1 rfl)) (h.rd.below.trans hb) (Nat.le_trans h.rd.size t.size)) (Ext.refl _ _) ty
/-- another world in which all blocks but one row's and the box are as they were -/
theorem ShSt.put (h : ShSt R w m p G made ts vm vt wr) {made' : List Bool} {ts' : List (Value × Value × Value)} {vm' vt' : Value} {row : Option Nat} {j : Nat} (hg : wr.grownBy w2 row) (hr : ∀ i, row = some i → w.heap.size < i ∧ i ≠ m) (hsh : Sht R.g R.B w.heap.size G made' ts' vm' vt' w2)
    (hbx : (#[vm, vt] : Array Value).setIfInBounds j v' = #[vm', vt']) : ShSt R w m p G made' ts' vm' vt' (w2.setCell ⟨m, j, none⟩ v') := by
  have hgl := h.glt
  have hm := h.hm
  have hlo := h.lo
  have hkm : w2.heap[m]? = wr.heap[m]? := hg.block m (block_lt h.box) (fun e => (hr m e.symm).2 rfl)
  have hkr : w2.heap[w.heap.size]? = wr.heap[w.heap.size]? := hg.block _ (block_lt h.res) (fun e => by have := (hr _ e.symm).1; omega)
  have hb : Below w.heap.size wr (w2.setCell ⟨m, j, none⟩ v') := ((Below.refl _ _).grown hg hlo (fun k hk => by have := (hr k hk).1; omega)).setCell (p := ⟨m, j, none⟩) (Nat.le_of_lt hm) v'
  have b1 := hkm.trans h.box
  have n1 : vm'.ownBlock ≠ some m := ownsRow_ne hsh.om b1 (fun c e => by cases e)
  have n2 : vt'.ownBlock ≠ some m := ownsRow_ne hsh.ot b1 (fun c e => by cases e)
  refine ⟨⟨(hb.block _ hgl).trans h.rd.blk, h.rd.below.trans (hb.mono h.bw), Nat.le_trans h.rd.size hb.size⟩, ⟨hb.os.trans h.turn.os, hb.tape.trans h.turn.tape, hb.output.trans h.turn.output, Nat.le_trans hlo hb.size, fun i hi hn => (hb.block i hi).trans (h.turn.block i hi hn), fun i hi => .inl hi⟩, hsh.set _ _ n1 n2 h.boxG, ?_, ?_, h.bw, h.hm⟩
  · exact (setCell_far (by omega)).trans (hkr.trans h.res)
  · rw [← hbx]; exact setCell_block b1 j v'
theorem ShSt.app_made (h : ShSt R w m p G made ts vm vt wr) {x : Bool} (hg : wr.grownBy w2 vm.ownBlock) (ho : w2.ownsRow w.heap.size 4 1 v' (made.length + 1) (bools made ++ [.bool x])) : ShSt R w m p G (made ++ [x]) ts v' vt (w2.setCell ⟨m, 0, none⟩ v') :=
  h.put hg (fun i e => ⟨by have := (h.sh.om.lt i e).1; have h2 := h.ne.2.1; have : i ≠ w.heap.size := fun e2 => h2 (e2 ▸ e); omega, fun e2 => h.ne.1 (e2 ▸ e)⟩) (h.sh.app_made hg ho) rfl
theorem ShSt.app_task (h : ShSt R w m p G made ts vm vt wr) {x y z : Value} (hg : wr.grownBy w2 vt.ownBlock) (ho : w2.ownsRow w.heap.size 48 3 v' (ts.length + 1) (cells3 ts ++ [x, y, z])) (hv : TyV G 2 (.agg #[x, y, z]))
    (hat : ∀ i, v'.ownBlock = some i → vt.ownBlock = some i ∨ i = wr.heap.size) : ShSt R w m p G made (ts ++ [(x, y, z)]) vm v' (w2.setCell ⟨m, 1, none⟩ v') :=
  h.put hg (fun i e => ⟨by have := (h.sh.ot.lt i e).1; have h2 := h.ne.2.2.2; have : i ≠ w.heap.size := fun e2 => h2 (e2 ▸ e); omega, fun e2 => h.ne.2.2.1 (e2 ▸ e)⟩) (h.sh.app_task hg ho hv hat) rfl
theorem ShSt.cells (h : ShSt R w m p G made ts vm vt wr) : wr.cell? ⟨m, 0, none⟩ = some vm ∧ wr.cell? ⟨m, 1, none⟩ = some vt ∧ wr.frozen? ⟨m, 0, none⟩ = false ∧ wr.frozen? ⟨m, 1, none⟩ = false ∧ m < wr.heap.size :=
  ⟨cellm h.box 0, cellm h.box 1, frozenm h.box 0, frozenm h.box 1, block_lt h.box⟩
/-- .. a row's block was filled or made anew: the box reads as it did -/
theorem ShSt.cells_grown (h : ShSt R w m p G made ts vm vt wr) {row : Option Nat} (hg : wr.grownBy w2 row) (hr : row ≠ some m) : w2.cell? ⟨m, 0, none⟩ = some vm ∧ w2.cell? ⟨m, 1, none⟩ = some vt ∧ w2.frozen? ⟨m, 0, none⟩ = false ∧ w2.frozen? ⟨m, 1, none⟩ = false ∧ m < w2.heap.size := by
  have hb := (hg.block m (block_lt h.box) (fun e => hr e.symm)).trans h.box
  exact ⟨cellm hb 0, cellm hb 1, frozenm hb 0, frozenm hb 1, block_lt hb⟩
/-- a block that no row of the sheet, nor the reader, nor a variable lies in -/
def Far (R : RdEnv) (w : World) (m : Nat) (G : Rows) (vm vt : Value) (b : Nat) : Prop := vm.ownBlock ≠ some b ∧ vt.ownBlock ≠ some b ∧ (∀ x, G b ≠ some x) ∧ b ≠ w.heap.size ∧ b ≠ m ∧ b ≠ R.g ∧ w.heap.size ≤ b
theorem ShSt.far (h : ShSt R w m p G made ts vm vt wr) (b : Nat) (hb : wr.heap.size ≤ b) : Far R w m G vm vt b :=
  ⟨fun e => by have := (h.sh.om.lt b e).2; omega, fun e => by have := (h.sh.ot.lt b e).2; omega, fun x hx => by have := h.sh.ty.lt hx; omega, by have := block_lt h.res; omega, by have := block_lt h.box; omega, by have := block_lt h.rd.blk; omega, by have := h.lo; omega⟩
theorem ShSt.set (h : ShSt R w m p G made ts vm vt wr) {b : Nat} (hf : Far R w m G vm vt b) (o : Nat) (v : Value) : ShSt R w m p G made ts vm vt (wr.setCell ⟨b, o, none⟩ v) := by
  obtain ⟨f1, f2, f3, f4, f5, f6, f7⟩ := hf
  have t := setCell_turn (F := (· = b)) (w := wr) (a := ⟨b, o, none⟩) rfl v
  have hb : Below w.heap.size wr (wr.setCell ⟨b, o, none⟩ v) := t.below h.lo (fun i e => by cases e; exact f7)
  exact ⟨⟨(hb.block _ h.glt).trans h.rd.blk, h.rd.below.trans (hb.mono h.bw), Nat.le_trans h.rd.size hb.size⟩, ⟨hb.os.trans h.turn.os, hb.tape.trans h.turn.tape, hb.output.trans h.turn.output, Nat.le_trans h.lo hb.size, fun i hi hn => (hb.block i hi).trans (h.turn.block i hi hn), fun i hi => .inl hi⟩,
    h.sh.set o v f1 f2 f3, (setCell_far (fun e => f4 e.symm)).trans h.res, (setCell_far (fun e => f5 e.symm)).trans h.box, h.bw, h.hm⟩
/-- what a draw of a sheet brings -/
def DrawSh (R : RdEnv) (p c : Nat) (w : World) (e : Ending) (w' : World) : Prop :=
  ∃ p' G made ts vm vt, e = .returned (.agg #[vm, vt]) ∧ made.length = ts.length ∧ made.length ≤ 8 ∧ 2 ≤ made.length ∧ p ≤ p' ∧ p' ≤ p + c ∧ RdAt R p' w' ∧ Turn (· = R.g) (· = R.g) w w' ∧ Sht R.g R.B w.heap.size G made ts vm vt w'
theorem ShSt.done (h : ShSt R w m p2 G made ts vm vt wr) {c : Nat} {fn : Func} {t : Nat} {tmps : Array Value} (hr : fn.results = #[.cell t 31])
    (ht : tmps.getD t undef = .pointer (some ⟨w.heap.size, 0, none⟩)) (hl : made.length = ts.length ∧ made.length ≤ 8 ∧ 2 ≤ made.length) (hp : p ≤ p2 ∧ p2 ≤ p + c) :
    bodyPost Try.prog fn (DrawSh R p c w) .ret ⟨tmps, []⟩ ((wr.setCell ⟨w.heap.size, 0, none⟩ vm).setCell ⟨w.heap.size, 1, none⟩ vt) := by
  have t2 : Turn (· = w.heap.size) (· = w.heap.size) wr ((wr.setCell ⟨w.heap.size, 0, none⟩ vm).setCell ⟨w.heap.size, 1, none⟩ vt) :=
    (setCell_turn (F := (· = w.heap.size)) rfl vm).trans (setCell_turn (F := (· = w.heap.size)) rfl vt)
  have hb : Below w.heap.size wr ((wr.setCell ⟨w.heap.size, 0, none⟩ vm).setCell ⟨w.heap.size, 1, none⟩ vt) := t2.below h.lo (fun i e => by cases e; exact Nat.le_refl _)
  have hW := setCell_block (setCell_block h.res 0 vm) 1 vt
  have y0 : ((wr.setCell ⟨w.heap.size, 0, none⟩ vm).setCell ⟨w.heap.size, 1, none⟩ vt).cell? ⟨w.heap.size, 0, none⟩ = some vm := cellm hW 0
  have y1 : ((wr.setCell ⟨w.heap.size, 0, none⟩ vm).setCell ⟨w.heap.size, 1, none⟩ vt).cell? ⟨w.heap.size, 1, none⟩ = some vt := cellm hW 1
  have ht' : tmps[t]?.getD undef = .pointer (some ⟨w.heap.size, 0, none⟩) := by simpa using ht
  have fin : DrawSh R p c w (.returned (.agg #[vm, vt])) ((wr.setCell ⟨w.heap.size, 0, none⟩ vm).setCell ⟨w.heap.size, 1, none⟩ vt) :=
    ⟨p2, G, made, ts, vm, vt, rfl, hl.1, hl.2.1, hl.2.2, hp.1, hp.2, ⟨(hb.block _ h.glt).trans h.rd.blk, h.rd.below.trans (hb.mono h.bw), Nat.le_trans h.rd.size hb.size⟩,
      ⟨hb.os.trans h.turn.os, hb.tape.trans h.turn.tape, hb.output.trans h.turn.output, Nat.le_trans h.lo hb.size, fun i hi hn => (hb.block i hi).trans (h.turn.block i hi hn), fun i hi => .inl hi⟩,
      (h.sh.set _ _ h.ne.2.1 h.ne.2.2.2 h.resG).set _ _ h.ne.2.1 h.ne.2.2.2 h.resG⟩
  generalize (wr.setCell ⟨w.heap.size, 0, none⟩ vm).setCell ⟨w.heap.size, 1, none⟩ vt = W at *
  refine bodyPost_ret (v := .agg #[vm, vt]) ?_ rfl fin
  simp [results, hr, ht', go_sem, y0, y1]
end

theorem one_bool (b : Bool) : ∀ u ∈ [Value.bool b], u.oneCell' = true := by
  intro u hu; rw [List.mem_singleton.1 hu]; rfl
theorem one_task (a b : Int) (A : Option Addr) (n c : Nat) : ∀ u ∈ [Value.int .i64 a, Value.int .i64 b, Value.slice A n c], u.oneCell' = true := by
  intro u hu
  simp only [List.mem_cons, List.not_mem_nil, or_false] at hu
  rcases hu with rfl | rfl | rfl <;> rfl

set_option maxHeartbeats 4000000 in
theorem l91Sheet_calls (R : RdEnv) (hR : R.Good) (p : Nat) (hp : p + 400 ≤ 1000000) (w : World) (h : RdAt R p w) :
    Calls Try.prog 67 #[.pointer (some ⟨R.g, 0, none⟩)] w (DrawSh R p 400 w) := by
  have h1 := pick_calls R hR p (by omega) 7 _ (h.up (below_al (Below.refl _ _) (.cells #[.slice none 0 0, .slice none 0 0] 31 (0, 0))))
  replace h1 := Lib.hid h1
  replace h := Lib.hid h
  go_enter Try.func67, Try.ntmps67
  go_wp2_with fail
  refine h1.out.mono ?_
  rintro e w1 ⟨n, rfl, hn0, hn1, hr, ht⟩
  obtain ⟨n, rfl⟩ := Int.eq_ofNat_of_zero_le hn0
  have hn : n < 7 := by omega
  have hs := ShSt.start h.out hr ht
  have hz : w.heap.size < w1.heap.size := by have := ht.size; simp at this; omega
  clear h1 h hr ht
  have h2 := pick_calls R hR (p + 1) (by omega) 3 _ hs.rd
  replace h2 := Lib.hid h2
  replace hs := Lib.hid hs
  go_wp2_with fail
  refine h2.out.mono ?_
  rintro e w2 ⟨f, rfl, hf0, hf1, hr, ht⟩
  have hf : f < 3 := by omega
  have hs1 := hs.out.pick hr ht
  clear hs h2 hr ht
  have h3 := pick_calls R hR (p + 1 + 1) (by omega) 8 _ hs1.rd
  replace h3 := Lib.hid h3
  replace hs1 := Lib.hid hs1
  go_wp2_with fail
  refine h3.out.mono ?_
  rintro e w3 ⟨k, rfl, hk0, hk1, hr, ht⟩
  have hs2 := hs1.out.pick hr ht
  clear hs1 h3 hr ht
  replace hs2 := Lib.hid hs2
  go_wp2_with fail
  generalize w1.heap.size = m at hs2 ⊢
  generalize (k == 0) = wild
  go_loopw [7] (fun i wr => ∃ (j : Nat) (made : List Bool) (ts : List (Value × Value × Value)) (vm vt : Value) (G : Rows) (p2 : Nat), j ≤ n + 2 ∧ made.length = j ∧ ts.length = j ∧ p2 ≤ p + 3 + 41 * j ∧ p ≤ p2 ∧ i = .int .i64 j ∧ Hid (ShSt R w m p2 G made ts vm vt wr)) (fun i _ => n + 2 - (intOf i).toNat)
  case atStart => exact ⟨0, [], [], _, _, noRows, p + 1 + 1 + 1, Nat.zero_le _, rfl, rfl, by omega, by omega, rfl, hs2⟩
  case round =>
    obtain ⟨j, made, ts, vm, vt, G, p2, hj, hlm, hlt, hp2, hpp, rfl, hL⟩ := hrel
    by_cases hjn : j < n + 2
    · by_cases hjf : (j : Int) < 1 + f
      · have hA1a := hL.out.alloc (.cells #[.bool false] 4 (0, 0))
        obtain ⟨c0, c1, g0, g1, hmz⟩ := hL.out.cells
        replace hA1a := Lib.hid hA1a
        go_wp2_with (at_builtin; go_loud (with_reducible refine wpList_app1 (by rfl) (.tmp 34) (.tmp 35) 22 (by rfl) boolTy w.heap.size vm made.length (bools made) (by with_unfolding_all rfl) hA1a.out.sh.om wr.heap.size 1 [.bool false] (by with_unfolding_all rfl) (by with_unfolding_all rfl) ⟨_, _, heap_alloc_new wr _, rfl⟩ (one_bool _) ?_ ?_ ?_ ?_))
        · unfold maxLen; omega
        · omega
        · exact hA1a.out.lo
        intro g cap hA1w hown hgrow hat
        obtain ⟨c0, c1, g0, g1, hmz⟩ := hA1a.out.cells_grown hgrow hA1a.out.ne.1
        have hA1 := hA1a.out.app_made (x := false) (v' := .slice (some ⟨g, 0, none⟩) (j + 1) cap) hgrow (by rw [hlm]; exact hown)
        replace hA1 := Lib.hid hA1
        clear hown hgrow hat hA1a hL
        have hA2a := hA1.out.alloc (.cells #[.int .i64 0, .int .i64 0, .slice none 0 0] 48 (0, 0))
        replace hA2a := Lib.hid hA2a
        go_wp2_with (at_builtin; go_loud (with_reducible refine wpList_app1 (by rfl) (.tmp 39) (.tmp 41) 29 (by rfl) taskTy w.heap.size vt ts.length (cells3 ts) (by with_unfolding_all rfl) hA2a.out.sh.ot hA1w.heap.size 1 [.int .i64 0, .int .i64 0, .slice none 0 0] (by with_unfolding_all rfl) (by with_unfolding_all rfl) ⟨_, _, heap_new (by rw [World.size_setCell]), rfl⟩ (one_task _ _ _ _ _) ?_ ?_ ?_ ?_))
        · unfold maxLen; omega
        · omega
        · exact hA2a.out.lo
        intro g2 cap2 hA2w hown hgrow hat
        obtain ⟨c0, c1, g0, g1, hmz⟩ := hA2a.out.cells_grown hgrow hA2a.out.ne.2.2.1
        have hA2 := hA2a.out.app_task (v' := .slice (some ⟨g2, 0, none⟩) (j + 1) cap2) hgrow (by rw [hlt]; exact hown) (tyv_leaf _ _ _ _ (by omega)) (fun i hi => by cases hi; simpa using hat)
        replace hA2 := Lib.hid hA2
        clear hown hgrow hat hA2a hA1
        go_wp2_with fail
        go_roundw
        case rel => exact ⟨j + 1, _, _, _, _, _, p2, by omega, by simp [hlm], by simp [hlt], by omega, by omega, by go_num, hA2⟩
        case measure => simp [intOf]; omega
      · have hc := pick_calls R hR p2 (by omega) 10 wr hL.out.rd
        replace hc := Lib.hid hc
        go_wp2_with fail
        refine hc.out.mono ?_
        rintro e w4 ⟨x, rfl, hx0, hx1, hr2, ht2⟩
        have hL2 := hL.out.pick hr2 ht2
        clear hc hr2 ht2 hL
        replace hL2 := Lib.hid hL2
        by_cases hx : x = 0
        · subst hx
          have hA1a := hL2.out.alloc (.cells #[.bool false] 4 (0, 0))
          obtain ⟨c0, c1, g0, g1, hmz⟩ := hL2.out.cells
          replace hA1a := Lib.hid hA1a
          go_wp2_with (at_builtin; go_loud (with_reducible refine wpList_app1 (by rfl) (.tmp 34) (.tmp 35) 22 (by rfl) boolTy w.heap.size vm made.length (bools made) (by with_unfolding_all rfl) hA1a.out.sh.om w4.heap.size 1 [.bool false] (by with_unfolding_all rfl) (by with_unfolding_all rfl) ⟨_, _, heap_alloc_new w4 _, rfl⟩ (one_bool _) ?_ ?_ ?_ ?_))
          · unfold maxLen; omega
          · omega
          · exact hA1a.out.lo
          intro g cap hA1w hown hgrow hat
          obtain ⟨c0, c1, g0, g1, hmz⟩ := hA1a.out.cells_grown hgrow hA1a.out.ne.1
          have hA1 := hA1a.out.app_made (x := false) (v' := .slice (some ⟨g, 0, none⟩) (j + 1) cap) hgrow (by rw [hlm]; exact hown)
          replace hA1 := Lib.hid hA1
          clear hown hgrow hat hA1a hL2
          have hA2a := hA1.out.alloc (.cells #[.int .i64 0, .int .i64 0, .slice none 0 0] 48 (0, 0))
          replace hA2a := Lib.hid hA2a
          go_wp2_with (at_builtin; go_loud (with_reducible refine wpList_app1 (by rfl) (.tmp 39) (.tmp 41) 29 (by rfl) taskTy w.heap.size vt ts.length (cells3 ts) (by with_unfolding_all rfl) hA2a.out.sh.ot hA1w.heap.size 1 [.int .i64 0, .int .i64 0, .slice none 0 0] (by with_unfolding_all rfl) (by with_unfolding_all rfl) ⟨_, _, heap_new (by rw [World.size_setCell]), rfl⟩ (one_task _ _ _ _ _) ?_ ?_ ?_ ?_))
          · unfold maxLen; omega
          · omega
          · exact hA2a.out.lo
          intro g2 cap2 hA2w hown hgrow hat
          obtain ⟨c0, c1, g0, g1, hmz⟩ := hA2a.out.cells_grown hgrow hA2a.out.ne.2.2.1
          have hA2 := hA2a.out.app_task (v' := .slice (some ⟨g2, 0, none⟩) (j + 1) cap2) hgrow (by rw [hlt]; exact hown) (tyv_leaf _ _ _ _ (by omega)) (fun i hi => by cases hi; simpa using hat)
          replace hA2 := Lib.hid hA2
          clear hown hgrow hat hA2a hA1
          go_wp2_with fail
          go_roundw
          case rel => exact ⟨j + 1, _, _, _, _, _, p2 + 1, by omega, by simp [hlm], by simp [hlt], by omega, by omega, by go_num, hA2⟩
          case measure => simp [intOf]; omega
        · have hx' : (x == 0) = false := by simp [hx]
          cases wild with
          | true =>
            have hB1a := hL2.out.alloc (.cells #[.bool true] 4 (0, 0))
            obtain ⟨c0, c1, g0, g1, hmz⟩ := hL2.out.cells
            replace hB1a := Lib.hid hB1a
            go_wp2_with (at_builtin; go_loud (with_reducible refine wpList_app1 (by rfl) (.tmp 45) (.tmp 46) 22 (by rfl) boolTy w.heap.size vm made.length (bools made) (by with_unfolding_all rfl) hB1a.out.sh.om w4.heap.size 1 [.bool true] (by with_unfolding_all rfl) (by with_unfolding_all rfl) ⟨_, _, heap_alloc_new w4 _, rfl⟩ (one_bool _) ?_ ?_ ?_ ?_))
            · unfold maxLen; omega
            · omega
            · exact hB1a.out.lo
            intro g cap hB1w hown hgrow hat
            obtain ⟨c0, c1, g0, g1, hmz⟩ := hB1a.out.cells_grown hgrow hB1a.out.ne.1
            have hB1 := hB1a.out.app_made (x := true) (v' := .slice (some ⟨g, 0, none⟩) (j + 1) cap) hgrow (by rw [hlm]; exact hown)
            replace hB1 := Lib.hid hB1
            clear hown hgrow hat hB1a hL2
            go_wp2_with fail
            have hd := l91Fit_calls R hR G (p2 + 1) (by omega) (2 + (n : Int)) _ hB1.out.rd hB1.out.sh.ty
            replace hd := Lib.hid hd
            refine hd.out.mono ?_
            rintro e w5 ⟨q, G1, v, rfl, hv, hq, hQ, hr, ht, he, hy⟩
            have hB2 := hB1.out.move ht (fun i e => .inl e) hr he hy
            have hv' := hv
            obtain ⟨a9, b9, A9, m9, d9, rfl, _⟩ := hv'
            replace hv := Lib.hid hv
            replace hB2 := Lib.hid hB2
            clear hd hr ht he hy hB1 c0 c1 g0 g1 hmz
            obtain ⟨c0, c1, g0, g1, hmz⟩ := hB2.out.cells
            have hB3 := hB2.out.alloc (.cells #[.int .i64 a9, .int .i64 b9, .slice A9 m9 d9] 48 (0, 0))
            replace hB3 := Lib.hid hB3
            clear hB2
            have hBa := hB3.out.alloc (.cells #[.int .i64 a9, .int .i64 b9, .slice A9 m9 d9] 48 (0, 0))
            replace hBa := Lib.hid hBa
            go_wp2_with (at_builtin; go_loud (with_reducible refine wpList_app1 (by rfl) (.tmp 61) (.tmp 63) 29 (by rfl) taskTy w.heap.size vt ts.length (cells3 ts) (by with_unfolding_all rfl) hBa.out.sh.ot (w5.heap.size + 1) 1 [.int .i64 a9, .int .i64 b9, .slice A9 m9 d9] (by with_unfolding_all rfl) (by with_unfolding_all rfl) ⟨_, _, heap_new (by simp), rfl⟩ (one_task _ _ _ _ _) ?_ ?_ ?_ ?_))
            · unfold maxLen; omega
            · omega
            · exact hBa.out.lo
            intro g2 cap2 w8 hown hgrow hat
            obtain ⟨c0, c1, g0, g1, hmz⟩ := hBa.out.cells_grown hgrow hBa.out.ne.2.2.1
            have hB9 := hBa.out.app_task (v' := .slice (some ⟨g2, 0, none⟩) (j + 1) cap2) hgrow (by rw [hlt]; exact hown) hv.out (fun i hi => by cases hi; simpa using hat)
            replace hB9 := Lib.hid hB9
            clear hown hgrow hat hBa hB3
            go_wp2_with fail
            go_roundw
            case rel => exact ⟨j + 1, _, _, _, _, _, q, by omega, by simp [hlm], by simp [hlt], by omega, by omega, by go_num, hB9⟩
            case measure => simp [intOf]; omega
          | false =>
            have hB1a := hL2.out.alloc (.cells #[.bool true] 4 (0, 0))
            obtain ⟨c0, c1, g0, g1, hmz⟩ := hL2.out.cells
            replace hB1a := Lib.hid hB1a
            go_wp2_with (at_builtin; go_loud (with_reducible refine wpList_app1 (by rfl) (.tmp 45) (.tmp 46) 22 (by rfl) boolTy w.heap.size vm made.length (bools made) (by with_unfolding_all rfl) hB1a.out.sh.om w4.heap.size 1 [.bool true] (by with_unfolding_all rfl) (by with_unfolding_all rfl) ⟨_, _, heap_alloc_new w4 _, rfl⟩ (one_bool _) ?_ ?_ ?_ ?_))
            · unfold maxLen; omega
            · omega
            · exact hB1a.out.lo
            intro g cap hB1w hown hgrow hat
            obtain ⟨c0, c1, g0, g1, hmz⟩ := hB1a.out.cells_grown hgrow hB1a.out.ne.1
            have hB1 := hB1a.out.app_made (x := true) (v' := .slice (some ⟨g, 0, none⟩) (j + 1) cap) hgrow (by rw [hlm]; exact hown)
            replace hB1 := Lib.hid hB1
            clear hown hgrow hat hB1a hL2
            go_wp2_with fail
            have hd := l91Fit_calls R hR G (p2 + 1) (by omega) ((j : Int)) _ hB1.out.rd hB1.out.sh.ty
            replace hd := Lib.hid hd
            refine hd.out.mono ?_
            rintro e w5 ⟨q, G1, v, rfl, hv, hq, hQ, hr, ht, he, hy⟩
            have hB2 := hB1.out.move ht (fun i e => .inl e) hr he hy
            have hv' := hv
            obtain ⟨a9, b9, A9, m9, d9, rfl, _⟩ := hv'
            replace hv := Lib.hid hv
            replace hB2 := Lib.hid hB2
            clear hd hr ht he hy hB1 c0 c1 g0 g1 hmz
            have hB3 := hB2.out.alloc (.cells #[.int .i64 a9, .int .i64 b9, .slice A9 m9 d9] 48 (0, 0))
            have hlw := l91Lower_calls R.g R.B G1 j 2 _ _ hv.out hB3.sh.ty
            have hfar := fun i (hi : i = w5.heap.size) => hB2.out.far i (by omega)
            replace hlw := Lib.hid hlw
            replace hB3 := Lib.hid hB3
            replace hfar := Lib.hid hfar
            clear hB2
            go_wp2_with fail
            refine hlw.out.mono ?_
            rintro e w6 ⟨v6, rfl, hv6, hy6, ht6⟩
            have hB4 := hB3.out.lower hy6 ht6
            have hf6 := hfar.out _ rfl
            have hb9 := (ht6.block w5.heap.size (by simp) (fun ⟨x, hx⟩ => hf6.2.2.1 x hx)).trans (heap_new rfl)
            have hv6' := hv6
            obtain ⟨a6, b6, A6, m6, d6, rfl, _⟩ := hv6'
            have hB5 := ((hB4.set hf6 0 (.int .i64 a6)).set hf6 1 (.int .i64 b6)).set hf6 2 (.slice A6 m6 d6)
            have t0 : w6.cell? ⟨w5.heap.size, 0, none⟩ = some (.int .i64 a9) := cellm hb9 0
            have t1 : w6.cell? ⟨w5.heap.size, 1, none⟩ = some (.int .i64 b9) := cellm hb9 1
            have t2 : w6.cell? ⟨w5.heap.size, 2, none⟩ = some (.slice A9 m9 d9) := cellm hb9 2
            have r0 : w6.frozen? ⟨w5.heap.size, 0, none⟩ = false := frozenm hb9 0
            have r1 : w6.frozen? ⟨w5.heap.size, 1, none⟩ = false := frozenm hb9 1
            have r2 : w6.frozen? ⟨w5.heap.size, 2, none⟩ = false := frozenm hb9 2
            have z9 := block_lt hb9
            have zne : m ≠ w5.heap.size := fun e => hf6.2.2.2.2.1 e.symm
            obtain ⟨c0, c1, g0, g1, hmz⟩ := hB4.cells
            replace hB5 := Lib.hid hB5
            replace hv6 := Lib.hid hv6
            clear hlw hB3 hB4 hfar hf6 hb9 hy6 ht6
            have hBa := hB5.out.alloc (.cells #[.int .i64 a6, .int .i64 b6, .slice A6 m6 d6] 48 (0, 0))
            replace hBa := Lib.hid hBa
            go_wp2_with (at_builtin; go_loud (with_reducible refine wpList_app1 (by rfl) (.tmp 61) (.tmp 63) 29 (by rfl) taskTy w.heap.size vt ts.length (cells3 ts) (by with_unfolding_all rfl) hBa.out.sh.ot w6.heap.size 1 [.int .i64 a6, .int .i64 b6, .slice A6 m6 d6] (by with_unfolding_all rfl) (by with_unfolding_all rfl) ⟨_, _, heap_new (by simp), rfl⟩ (one_task _ _ _ _ _) ?_ ?_ ?_ ?_))
            · unfold maxLen; omega
            · omega
            · exact hBa.out.lo
            intro g2 cap2 w8 hown hgrow hat
            obtain ⟨c0, c1, g0, g1, hmz⟩ := hBa.out.cells_grown hgrow hBa.out.ne.2.2.1
            have hB9 := hBa.out.app_task (v' := .slice (some ⟨g2, 0, none⟩) (j + 1) cap2) hgrow (by rw [hlt]; exact hown) hv6.out (fun i hi => by cases hi; simpa using hat)
            replace hB9 := Lib.hid hB9
            clear hown hgrow hat hBa hB5
            go_wp2_with fail
            go_roundw
            case rel => exact ⟨j + 1, _, _, _, _, _, q, by omega, by simp [hlm], by simp [hlt], by omega, by omega, by go_num, hB9⟩
            case measure => simp [intOf]; omega
    · have hjn' : j = n + 2 := by omega
      subst hjn'
      obtain ⟨Am, cm, evm, _⟩ := ownsRow_cells hL.out.sh.om
      obtain ⟨At, ct, evt, _⟩ := ownsRow_cells hL.out.sh.ot
      subst evm evt
      rw [hlm, hlt] at hL
      obtain ⟨c0, c1, g0, g1, hmz⟩ := hL.out.cells
      have r0 : wr.cell? ⟨w.heap.size, 0, none⟩ = some (.slice none 0 0) := cellm hL.out.res 0
      have r1 : wr.cell? ⟨w.heap.size, 1, none⟩ = some (.slice none 0 0) := cellm hL.out.res 1
      have k0 : wr.frozen? ⟨w.heap.size, 0, none⟩ = false := frozenm hL.out.res 0
      have k1 : wr.frozen? ⟨w.heap.size, 1, none⟩ = false := frozenm hL.out.res 1
      have z0 := block_lt hL.out.res
      go_wp2_with fail
      exact hL.out.done (p := p) (c := 400) rfl rfl ⟨by omega, by omega, by omega⟩ ⟨by omega, by omega⟩
end Go.Proofs.Ytpccgdkidnkppaa

set_option linter.unusedVariables false
set_option linter.unusedSimpArgs false
namespace Go.Proofs.Ytpccgdkidnkppaa
open Go Go.RowKit

/-- a drawn sheet and drawn inputs, as a world holds them -/
structure ArgsAt (w : World) (Am : Option Addr) (cm : Nat) (At : Option Addr) (ct : Nat) (made : List Bool) (tasks : List Task) (Ai : Option Addr) (ci : Nat) (inputs : List Int) : Prop where
  sheet : SheetAt w.heap.size w Am cm At ct made tasks
  ints : IntsAt w.heap.size w Ai inputs
  len : tasks.length = made.length
  small : made.length ≤ 8
  nodes : ∀ T ∈ tasks, nodes T ≤ 13
  ilen : inputs.length ≤ 9
  icap : inputs.length ≤ ci
  imax : ci ≤ maxLen

section
variable {g B lo lo2 : Nat} {G : Rows} {made : List Bool} {ts : List (Value × Value × Value)} {vm vt vi : Value} {xs : List Int} {w w2 : World}
/-- a drawn sheet and a row of numbers -/
structure ShIn (g B lo lo2 : Nat) (G : Rows) (made : List Bool) (ts : List (Value × Value × Value)) (vm vt vi : Value) (xs : List Int) (w : World) : Prop where
  sh : Sht g B lo G made ts vm vt w
  own : w.ownsRow lo2 3 1 vi xs.length (ints xs)
  lo : g < lo2
theorem ShIn.pick (h : ShIn g B lo lo2 G made ts vm vt vi xs w) {F' : Nat → Prop} (t : Turn (· = g) F' w w2) (hlo : lo ≤ w.heap.size) : ShIn g B lo lo2 G made ts vm vt vi xs w2 :=
  ⟨h.sh.pick t hlo, ownsRow_block h.own (fun i hi => t.block i (h.own.lt i hi).2 (fun e => by have := (h.own.lt i hi).1; have := h.lo; omega)), h.lo⟩
theorem ShIn.set (h : ShIn g B lo lo2 G made ts vm vt vi xs w) {b : Nat} (hb : b < lo) (hb2 : b < lo2) (o : Nat) (v : Value) : ShIn g B lo lo2 G made ts vm vt vi xs (w.setCell ⟨b, o, none⟩ v) :=
  ⟨h.sh.set o v (fun e => by have := (h.sh.om.lt b e).1; omega) (fun e => by have := (h.sh.ot.lt b e).1; omega) (fun x hx => by have := h.sh.new b x hx; omega), ownsRow_block h.own (fun i hi => setCell_far (fun e => by have := (h.own.lt i hi).1; omega)), h.lo⟩
theorem ShIn.args (h : ShIn g B lo lo2 G made ts vm vt vi xs w) (h1 : made.length = ts.length) (h2 : made.length ≤ 8) (h3 : xs.length ≤ 9) :
    ∃ Am cm At ct tasks Ai ci, vm = .slice Am made.length cm ∧ vt = .slice At tasks.length ct ∧ vi = .slice Ai xs.length ci ∧ ArgsAt w Am cm At ct made tasks Ai ci xs := by
  obtain ⟨Am, cm, At, ct, tasks, e1, e2, e3, e4, e5⟩ := h.sh.reads
  obtain ⟨Ai, ci, e6, e7, e8, e9⟩ := ownsRow_ints h.own
  exact ⟨Am, cm, At, ct, tasks, Ai, ci, e1, e2, e6, e4, e9, by omega, h2, fun T hT => by have := e5 T hT; simpa [nb] using this, h3, e7, e8⟩
end

theorem ret_sheet2 {fn : Func} {t u v : Nat} {tmps : Array Value} {Q : Ending → World → Prop} {W : World} {m : Nat} {a b x y : Value} (hr : fn.results = #[.cell t 31, .tmp u, .tmp v])
    (ht : tmps.getD t undef = .pointer (some ⟨m, 0, none⟩)) (hu : tmps.getD u undef = x) (hv : tmps.getD v undef = y) (hW : W.heap[m]? = some (.cells #[a, b] 31 (0, 0))) (K : Q (.returned (.tuple #[.agg #[a, b], x, y])) W) : bodyPost Try.prog fn Q .ret ⟨tmps, []⟩ W := by
  have y0 : W.cell? ⟨m, 0, none⟩ = some a := cellm hW 0
  have y1 : W.cell? ⟨m, 1, none⟩ = some b := cellm hW 1
  refine bodyPost_ret (v := .tuple #[.agg #[a, b], x, y]) ?_ rfl K
  have ht' : tmps[t]?.getD undef = .pointer (some ⟨m, 0, none⟩) := by simpa using ht
  have hu' : tmps[u]?.getD undef = x := by simpa using hu
  have hv' : tmps[v]?.getD undef = y := by simpa using hv
  simp [results, hr, ht', hu', hv', go_sem, y0, y1]

/-- what a draw of a sheet, inputs and a key brings -/
def DrawKeyP (w : World) (e : Ending) (w' : World) : Prop :=
  ∃ Am cm At ct made tasks Ai ci inputs key, e = .returned (.tuple #[.agg #[.slice Am made.length cm, .slice At tasks.length ct], .slice Ai inputs.length ci, .int .i64 key]) ∧ -1 ≤ key ∧ key ≤ 9 ∧ ArgsAt w' Am cm At ct made tasks Ai ci inputs ∧ Below w.heap.size w w'

theorem ShIn.key {g B lo lo2 : Nat} {G : Rows} {made : List Bool} {ts : List (Value × Value × Value)} {vm vt vi : Value} {xs : List Int} {w w2 : World} (h : ShIn g B lo lo2 G made ts vm vt vi xs w2) (h1 : made.length = ts.length) (h2 : made.length ≤ 8) (h3 : xs.length ≤ 9) (hb : Below w.heap.size w w2) (k : Int) (hk0 : -1 ≤ k) (hk1 : k ≤ 9) :
    DrawKeyP w (.returned (.tuple #[.agg #[vm, vt], vi, .int .i64 k])) w2 := by
  obtain ⟨Am', cm', At', ct', tasks, Ai', ci', rfl, rfl, rfl, ha⟩ := h.args h1 h2 h3
  exact ⟨Am', cm', At', ct', made, tasks, Ai', ci', xs, k, rfl, hk0, hk1, ha, hb⟩

end Go.Proofs.Ytpccgdkidnkppaa

set_option linter.unusedVariables false
set_option linter.unusedSimpArgs false
namespace Go.Proofs.Ytpccgdkidnkppaa
open Go Go.RowKit

theorem ret_sheet1 {fn : Func} {t u : Nat} {tmps : Array Value} {Q : Ending → World → Prop} {W : World} {m : Nat} {a b x : Value} (hr : fn.results = #[.cell t 31, .tmp u])
    (ht : tmps.getD t undef = .pointer (some ⟨m, 0, none⟩)) (hu : tmps.getD u undef = x) (hW : W.heap[m]? = some (.cells #[a, b] 31 (0, 0))) (K : Q (.returned (.tuple #[.agg #[a, b], x])) W) : bodyPost Try.prog fn Q .ret ⟨tmps, []⟩ W := by
  have y0 : W.cell? ⟨m, 0, none⟩ = some a := cellm hW 0
  have y1 : W.cell? ⟨m, 1, none⟩ = some b := cellm hW 1
  refine bodyPost_ret (v := .tuple #[.agg #[a, b], x]) ?_ rfl K
  have ht' : tmps[t]?.getD undef = .pointer (some ⟨m, 0, none⟩) := by simpa using ht
  have hu' : tmps[u]?.getD undef = x := by simpa using hu
  simp [results, hr, ht', hu', go_sem, y0, y1]

/-- what a draw of a sheet and inputs brings -/
def DrawAllP (w : World) (e : Ending) (w' : World) : Prop :=
  ∃ Am cm At ct made tasks Ai ci inputs, e = .returned (.tuple #[.agg #[.slice Am made.length cm, .slice At tasks.length ct], .slice Ai inputs.length ci]) ∧ ArgsAt w' Am cm At ct made tasks Ai ci inputs ∧ Below w.heap.size w w'
theorem ShIn.all {g B lo lo2 : Nat} {G : Rows} {made : List Bool} {ts : List (Value × Value × Value)} {vm vt vi : Value} {xs : List Int} {w w2 : World} (h : ShIn g B lo lo2 G made ts vm vt vi xs w2) (h1 : made.length = ts.length) (h2 : made.length ≤ 8) (h3 : xs.length ≤ 9) (hb : Below w.heap.size w w2) :
    DrawAllP w (.returned (.tuple #[.agg #[vm, vt], vi])) w2 := by
  obtain ⟨Am', cm', At', ct', tasks, Ai', ci', rfl, rfl, rfl, ha⟩ := h.args h1 h2 h3
  exact ⟨Am', cm', At', ct', made, tasks, Ai', ci', xs, rfl, ha, hb⟩

end Go.Proofs.Ytpccgdkidnkppaa

set_option linter.unusedVariables false
set_option linter.unusedSimpArgs false
namespace Go.Proofs.Ytpccgdkidnkppaa
open Go Go.RowKit

theorem specAllL_false {S : Sh} : ∀ (ks out all : List Int), specAllL S ks out = (all, false) → all = [] := by
  intro ks
  induction ks with
  | nil => intro out all h; cases h
  | cons k ks ih =>
    intro out all h
    rw [specAllL] at h
    by_cases hk : (specKeyP S k).2 = true
    · rw [if_pos hk] at h; exact ih _ _ h
    · rw [if_neg hk] at h; cases h; rfl

end Go.Proofs.Ytpccgdkidnkppaa

set_option linter.unusedVariables false
set_option linter.unusedSimpArgs false
namespace Go.Proofs.Ytpccgdkidnkppaa
open Go Go.RowKit

/-- a result that reads as a row of numbers, and a truth -/
def GivesList (r : List Int × Bool) (e : Ending) (w w' : World) : Prop :=
  ∃ A c, e = .returned (.tuple #[.slice A r.1.length c, .bool r.2]) ∧ r.1.length ≤ c ∧ c ≤ maxLen ∧ IntsAt w'.heap.size w' A r.1 ∧ Below w.heap.size w w'
/-- .. in memory from a block on -/
def GivesOwn (B : Nat) (r : List Int × Bool) (e : Ending) (w w' : World) : Prop :=
  ∃ v, e = .returned (.tuple #[v, .bool r.2]) ∧ w'.ownsRow B 3 1 v r.1.length (ints r.1) ∧ Below w.heap.size w w'
theorem GivesOwn.list {B : Nat} {r : List Int × Bool} {e : Ending} {w w' : World} (h : GivesOwn B r e w w') : GivesList r e w w' := by
  obtain ⟨v, rfl, ho, hb⟩ := h
  obtain ⟨A, c, rfl, h1, h2, h3⟩ := ownsRow_ints ho
  exact ⟨A, c, rfl, h1, h2, h3, hb⟩
def circleP (S : Sh) (k : Int) : List Int × Bool := if (keyP S S.made.length st0 k).1.2 then ([], false) else ((keyP S S.made.length st0 k).2.circle, true)
def specCircleP (S : Sh) (k : Int) : List Int × Bool := if (specP S S.made.length [] [] k).1.2 then ([], false) else ((specP S S.made.length [] [] k).2, true)
theorem circle_same {S : Sh} (hS : S.Ok) (k : Int) : circleP S k = specCircleP S k := by
  have h := build_spec hS k
  have h1 : (keyP S S.made.length st0 k).1 = (specP S S.made.length [] [] k).1 := h.1
  unfold circleP specCircleP
  rw [← h1]
  cases hk : (keyP S S.made.length st0 k).1.2 with
  | true => rfl
  | false => rw [h.2 hk]

end Go.Proofs.Ytpccgdkidnkppaa
