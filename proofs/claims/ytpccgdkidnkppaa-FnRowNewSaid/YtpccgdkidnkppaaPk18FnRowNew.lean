import Derived.Deep.RegionHeld3
import Derived.Deep.QuietTactic
import Derived.BigQuiet
import Derived.OpenShut
import Derived.Test.YtpccgdkidnkppaaPk1FnRowNew
import Derived.Test.YtpccgdkidnkppaaPk16FnRowNew
import Derived.Test.YtpccgdkidnkppaaPk17FnRowNew
set_option linter.unusedVariables false
set_option linter.unusedSimpArgs false
namespace Go.Proofs.Ytpccgdkidnkppaa
open Go Go.RowKit

theorem ordTy : ElemTy Try.prog 49 116 (.agg #[.slice none 0 0, .slice none 0 0]) 2 48 := ⟨Try.underlying49, by kernel_rfl, rfl, by omega⟩

theorem ret_order {fn : Func} {t : Nat} {tmps : Array Value} {Q : Ending → World → Prop} {W : World} {m : Nat} {a b : Value} (hr : fn.results = #[.cell t 116])
    (ht : tmps.getD t undef = .pointer (some ⟨m, 0, none⟩)) (hW : W.heap[m]? = some (.cells #[a, b] 116 (0, 0))) (K : Q (.returned (.agg #[a, b])) W) : bodyPost Try.prog fn Q .ret ⟨tmps, []⟩ W := by
  have y0 : W.cell? ⟨m, 0, none⟩ = some a := cellm hW 0
  have y1 : W.cell? ⟨m, 1, none⟩ = some b := cellm hW 1
  refine bodyPost_ret (v := .agg #[a, b]) ?_ rfl K
  have ht' : tmps[t]?.getD undef = .pointer (some ⟨m, 0, none⟩) := by simpa using ht
  simp [results, hr, ht', go_sem, y0, y1]

/-- what a draw of an order brings -/
def DrawOr (R : RdEnv) (p c m : Nat) (w : World) (e : Ending) (w' : World) : Prop :=
  ∃ p' ys vy ks vk, e = .returned (.agg #[vy, vk]) ∧ ys.length ≤ m ∧ ks.length ≤ 4 ∧ p ≤ p' ∧ p' ≤ p + c ∧ RdAt R p' w' ∧ Turn (· = R.g) (· = R.g) w w' ∧ w'.ownsRow w.heap.size 3 1 vy ys.length (ints ys) ∧ w'.ownsRow w.heap.size 3 1 vk ks.length (ints ks)

theorem RdAt.set {R : RdEnv} {p b : Nat} {w : World} (h : RdAt R p w) (hb : R.B ≤ b) (hg : R.g ≠ b) (o : Nat) (v : Value) : RdAt R p (w.setCell ⟨b, o, none⟩ v) :=
  ⟨(setCell_far hg).trans h.blk, h.below.setCell (p := ⟨b, o, none⟩) hb v, by simpa using h.size⟩

theorem Turn.after {F F' : Nat → Prop} {w w1 w2 : World} (t : Turn F F' w w1) (hb : Below w.heap.size w1 w2) : Turn F F' w w2 :=
  ⟨hb.os.trans t.os, hb.tape.trans t.tape, hb.output.trans t.output, Nat.le_trans t.size hb.size, fun i hi hF => (hb.block i hi).trans (t.block i hi hF), t.fresh⟩

set_option maxHeartbeats 4000000 in
theorem l91Order_calls (R : RdEnv) (hR : R.Good) (p : Nat) (hp : p + 200 ≤ 1000000) (Am At : Option Addr) (nm cm nt ct : Nat) (Ai : Option Addr) (ci : Nat) (xs : List Int) (w : World) (h : RdAt R p w) (hn : nm ≤ 20) (hl : xs.length ≤ 100) (hi : IntsAt w.heap.size w Ai xs) :
    Calls Try.prog 135 #[.pointer (some ⟨R.g, 0, none⟩), .agg #[.slice Am nm cm, .slice At nt ct], .slice Ai xs.length ci] w (DrawOr R p 107 xs.length w) := by
  have hgl := block_lt h.blk
  have hbw := h.size
  have hal := below_al (below_al (Below.refl w.heap.size w) (.cells #[.slice Am nm cm, .slice At nt ct] 31 (0, 0))) (.cells #[.slice none 0 0, .slice none 0 0] 116 (0, 0))
  have hc1 := l91More_calls R hR p (by omega) Ai ci xs ((w.alloc (.cells #[.slice Am nm cm, .slice At nt ct] 31 (0, 0))).alloc (.cells #[.slice none 0 0, .slice none 0 0] 116 (0, 0))).drew (h.up hal.drew) hl (hi.up hal.drew hal.size)
  have e0 : ((w.alloc (.cells #[.slice Am nm cm, .slice At nt ct] 31 (0, 0))).alloc (.cells #[.slice none 0 0, .slice none 0 0] 116 (0, 0))).drew.heap[w.heap.size]? = some (.cells #[.slice Am nm cm, .slice At nt ct] 31 (0, 0)) := (heap_old (by simp)).trans (heap_new rfl)
  have e1 : ((w.alloc (.cells #[.slice Am nm cm, .slice At nt ct] 31 (0, 0))).alloc (.cells #[.slice none 0 0, .slice none 0 0] 116 (0, 0))).drew.heap[w.heap.size + 1]? = some (.cells #[.slice none 0 0, .slice none 0 0] 116 (0, 0)) := (heap_new (by simp))
  replace hc1 := Lib.hid hc1
  replace hal := Lib.hid hal
  replace e0 := Lib.hid e0
  replace e1 := Lib.hid e1
  clear h hi
  go_enter Try.func135, Try.ntmps135
  go_wp2_with fail
  go_region_law (first
    | (go_simp; go_at_call 69; refine hc2.out.mono ?_; rintro e w3 ⟨p3, ks, vk, rfl, hkl, hp3, hp3', hr3, ht3, hown3⟩; obtain ⟨Ak, ck, rfl, -⟩ := ownsRow_cells hown3; have f1 := (ht3.block _ hz1.out hg1).trans d1.out; have q0 := cellm f1 0; have q1 := cellm f1 1; have q2 := frozenm f1 0; have q3 := frozenm f1 1; replace hr3 := Lib.hid hr3; replace ht3 := Lib.hid ht3; replace hown3 := Lib.hid hown3; replace f1 := Lib.hid f1)
    | (go_simp; go_at_call 156; refine hc1.out.mono ?_; rintro e w2 ⟨p2, ys, vy, rfl, hyl, hp2, hp2', hr2, ht2, hown2⟩; obtain ⟨Ay, cy, rfl, -⟩ := ownsRow_cells hown2; have hg0 : w.heap.size ≠ R.g := (by omega); have hg1 : w.heap.size + 1 ≠ R.g := (by omega); have d0 := (ht2.block _ (by simp; omega) hg0).trans e0.out; have d1 := (ht2.block _ (by simp) hg1).trans e1.out; have u0 := cellm d0 0; have u1 := cellm d0 1; have hc2 := l91Keys_calls R hR p2 (by omega) Am At nm cm nt ct w2 hr2 hn; have hz1 : Hid (w.heap.size + 1 < w2.heap.size) := Lib.hid (block_lt d1); replace hc2 := Lib.hid hc2; replace hr2 := Lib.hid hr2; replace ht2 := Lib.hid ht2; replace hown2 := Lib.hid hown2; replace d0 := Lib.hid d0; replace d1 := Lib.hid d1))
  all_goals
    have hg0 : R.g ≠ w.heap.size + 1 := by omega
    have hsz2 := ht2.out.size
    have hsz3 := ht3.out.size
    have hW := setCell_block (setCell_block f1.out 0 (.slice Ay ys.length cy)) 1 (.slice Ak ks.length ck)
    have hrd := (hr3.out.set (b := w.heap.size + 1) (by omega) hg0 0 (.slice Ay ys.length cy)).set (b := w.heap.size + 1) (by omega) hg0 1 (.slice Ak ks.length ck)
    have htt := ((((Turn.refl _ w).alloc (.cells #[.slice Am nm cm, .slice At nt ct] 31 (0, 0))).alloc (.cells #[.slice none 0 0, .slice none 0 0] 116 (0, 0))).drew.trans ht2.out).trans ht3.out
    have hset := ((Below.refl w.heap.size w3).setCell (p := ⟨w.heap.size + 1, 0, none⟩) (Nat.le_succ _) (.slice Ay ys.length cy)).setCell (p := ⟨w.heap.size + 1, 1, none⟩) (Nat.le_succ _) (.slice Ak ks.length ck)
    have htf := Turn.after htt hset
    have hy3 := ownsRow_block (w' := w3) hown2.out (fun i hi => ht3.out.block i (hown2.out.lt i hi).2 (fun e => by have := (hown2.out.lt i hi).1; simp at this; omega))
    have hyf := ownsRow_block (w' := (w3.setCell ⟨w.heap.size + 1, 0, none⟩ (.slice Ay ys.length cy)).setCell ⟨w.heap.size + 1, 1, none⟩ (.slice Ak ks.length ck)) hy3 (fun i hi => by
      have := (hown2.out.lt i hi).1
      simp at this
      exact (setCell_far (by omega)).trans (setCell_far (by omega)))
    have hkf := ownsRow_block (w' := (w3.setCell ⟨w.heap.size + 1, 0, none⟩ (.slice Ay ys.length cy)).setCell ⟨w.heap.size + 1, 1, none⟩ (.slice Ak ks.length ck)) hown3.out (fun i hi => by
      have := (hown3.out.lt i hi).1
      simp at hsz2
      exact (setCell_far (by omega)).trans (setCell_far (by omega)))
    have hfin : DrawOr R p 107 xs.length w (.returned (.agg #[.slice Ay ys.length cy, .slice Ak ks.length ck])) ((w3.setCell ⟨w.heap.size + 1, 0, none⟩ (.slice Ay ys.length cy)).setCell ⟨w.heap.size + 1, 1, none⟩ (.slice Ak ks.length ck)) :=
      ⟨p3, ys, _, ks, _, rfl, by omega, by omega, by omega, by omega, hrd, htf, ownsRow_base hyf (by simp; omega), ownsRow_base hkf (by simp at hsz2; omega)⟩
    replace hfin := Lib.hid hfin
    replace hW := Lib.hid hW
    clear hkf hyf hy3 htf hset htt hrd hown2 hown3 ht2 ht3 hr2 hr3 hc1 hc2 f1 q0 q1 q2 q3 e0 e1 hal
    go_wp2_with fail
    exact ret_order rfl rfl (hW.out.trans rfl) hfin.out
end Go.Proofs.Ytpccgdkidnkppaa

set_option linter.unusedVariables false
set_option linter.unusedSimpArgs false
namespace Go.Proofs.Ytpccgdkidnkppaa
open Go Go.RowKit

theorem own_ne {w : World} {b1 b2 s1 s2 n1 n2 : Nat} {e1 e2 : TypeId} {v1 v2 : Value} {x1 x2 : List Value} (h1 : w.ownsRow b1 e1 s1 v1 n1 x1) (h2 : w.ownsRow b2 e2 s2 v2 n2 x2) (hne : e1 ≠ e2) {g : Nat} (hg : v1.ownBlock = some g) : v2.ownBlock ≠ some g := by
  intro e
  rcases h1.2 with ⟨rfl, _⟩ | ⟨g1, cap1, cur1, rfl, _, h1g, _⟩
  · cases hg
  · cases hg
    exact ownsRow_ne h2 h1g (fun c e => by cases e; exact hne rfl) e
/-- a row of orders that is owned, with all rows in it -/
structure OrdO (base : Nat) (w : World) (v : Value) (cs : List Value) (l : List Ordr) : Prop where
  out : w.ownsRow base 116 2 v l.length cs
  inn : ∀ i (h : i < l.length), ∃ si ki : Value, cs[i * 2]? = some si ∧ cs[i * 2 + 1]? = some ki ∧ w.ownsRow base 3 1 si l[i].1.length (ints l[i].1) ∧ w.ownsRow base 3 1 ki l[i].2.length (ints l[i].2)
section
variable {base : Nat} {w w2 : World} {v v' : Value} {cs cs2 : List Value} {l l2 : List Ordr}
theorem OrdO.keep (h : OrdO base w v cs l) (hk : ∀ i, base ≤ i → i < w.heap.size → w2.heap[i]? = w.heap[i]?) : OrdO base w2 v cs l :=
  ⟨ownsRow_block h.out fun i hi => hk i (h.out.lt i hi).1 (h.out.lt i hi).2, fun i hi => by
    obtain ⟨si, ki, e1, e2, h1, h2⟩ := h.inn i hi
    exact ⟨si, ki, e1, e2, ownsRow_block h1 fun i hi => hk i (h1.lt i hi).1 (h1.lt i hi).2, ownsRow_block h2 fun i hi => hk i (h2.lt i hi).1 (h2.lt i hi).2⟩⟩
theorem OrdO.app {o : Obj} (h : OrdO base w v cs l) (h2 : ∀ i (h : i < l2.length), ∃ si ki : Value, cs2[i * 2]? = some si ∧ cs2[i * 2 + 1]? = some ki ∧ w.ownsRow base 3 1 si l2[i].1.length (ints l2[i].1) ∧ w.ownsRow base 3 1 ki l2[i].2.length (ints l2[i].2))
    (hg : (w.alloc o).grownBy w2 v.ownBlock) (ho : w2.ownsRow base 116 2 v' (l.length + l2.length) (cs ++ cs2)) : OrdO base w2 v' (cs ++ cs2) (l ++ l2) := by
  have hne : 3 ≠ 116 := by decide
  have hlen := h.out.1
  have up : ∀ (si : Value) (n : Nat) (xs : List Value), w.ownsRow base 3 1 si n xs → w2.ownsRow base 3 1 si n xs := fun si n xs h3 =>
    ownsRow_block h3 fun i hi => far_grown hg (h3.lt i hi).2 (own_ne h3 h.out hne hi)
  refine ⟨by simpa using ho, fun i hi => ?_⟩
  by_cases e : i < l.length
  · obtain ⟨si, ki, e1, e2, h1, h3⟩ := h.inn i e
    rw [List.getElem_append_left e]
    exact ⟨si, ki, by rw [List.getElem?_append_left (by omega)]; exact e1, by rw [List.getElem?_append_left (by omega)]; exact e2, up _ _ _ h1, up _ _ _ h3⟩
  · obtain ⟨si, ki, e1, e2, h1, h3⟩ := h2 (i - l.length) (by simp at hi; omega)
    rw [List.getElem_append_right (by omega)]
    refine ⟨si, ki, ?_, ?_, up _ _ _ h1, up _ _ _ h3⟩
    · rw [List.getElem?_append_right (by omega), show i * 2 - cs.length = (i - l.length) * 2 by omega]; exact e1
    · rw [List.getElem?_append_right (by omega), show i * 2 + 1 - cs.length = (i - l.length) * 2 + 1 by omega]; exact e2
theorem OrdO.reads (h : OrdO base w v cs l) : ∃ A c, v = .slice A l.length c ∧ l.length ≤ c ∧ c ≤ maxLen ∧ OrdsAt w.heap.size w A l := by
  obtain ⟨A, c, rfl, h1, h2, h3⟩ := ownsRow_cells h.out
  have hlen := h.out.1
  refine ⟨A, c, rfl, h1, h2, fun i hi => ?_⟩
  obtain ⟨si, ki, e1, e2, h4, h5⟩ := h.inn i hi
  obtain ⟨b, eb, hb, c1⟩ := h3 (i * 2) (by omega)
  obtain ⟨b', eb', -, c2⟩ := h3 (i * 2 + 1) (by omega)
  rw [eb] at eb'
  cases eb'
  obtain ⟨Ai, ci, rfl, a1, a2, a3⟩ := ownsRow_ints h4
  obtain ⟨Ak, ck, rfl, b1, b2, b3⟩ := ownsRow_ints h5
  exact ⟨b, 0, Ai, ci, Ak, ck, eb, hb, by rw [Nat.zero_add, c1, ← List.getElem?_eq_getElem]; exact e1, by rw [Nat.zero_add, c2, ← List.getElem?_eq_getElem]; exact e2, a3, a1, a2, b3, b1, b2⟩
end
section
variable {B B' : Nat} {w w' : World} {A : Option Addr} {l : List Ordr}
theorem OrdsAt.imp (h : OrdsAt B w A l) (hB : B ≤ B') (hw : ∀ b o v, b < B → w.cell? ⟨b, o, none⟩ = some v → w'.cell? ⟨b, o, none⟩ = some v) : OrdsAt B' w' A l := by
  intro i hi
  obtain ⟨b, o, Ai, ci, Ak, ck, e, hlt, c1, c2, h1⟩ := h i hi
  exact ⟨b, o, Ai, ci, Ak, ck, e, by omega, hw _ _ _ hlt c1, hw _ _ _ hlt c2, h1.ia.imp hB hw, h1.il, h1.im, h1.ka.imp hB hw, h1.kl, h1.km⟩
theorem OrdsAt.up (h : OrdsAt B w A l) (hb : Below B w w') (hB : B ≤ B') : OrdsAt B' w' A l :=
  h.imp hB fun b o v hlt hc => (hb.cell (p := ⟨b, o, none⟩) hlt).trans hc
theorem OrdsAt.unmask {lo : Nat} (h : OrdsAt B (mask lo w) A l) : OrdsAt B w A l := h.imp (Nat.le_refl _) fun b o v _ hc => mask_cell hc
theorem OrdO.readsM {lo base : Nat} {v : Value} {cs : List Value} (h : OrdO base w v cs l) (hl : lo ≤ base) : ∃ A c, v = .slice A l.length c ∧ l.length ≤ c ∧ c ≤ maxLen ∧ OrdsAt w.heap.size (mask lo w) A l := by
  obtain ⟨A, c, h1, h2, h3, h4⟩ := (h.keep (w2 := mask lo w) (fun i hi _ => mask_hi w (by omega))).reads
  exact ⟨A, c, h1, h2, h3, by simpa using h4⟩
end
/-- what a draw of a row of orders brings -/
def DrawRw (R : RdEnv) (p c : Nat) (w : World) (e : Ending) (w' : World) : Prop :=
  ∃ p' l v cs, e = .returned v ∧ l.length ≤ 8 ∧ (∀ x ∈ l, x.1.length ≤ 21 ∧ x.2.length ≤ 4) ∧ p ≤ p' ∧ p' ≤ p + c ∧ RdAt R p' w' ∧ Turn (· = R.g) (· = R.g) w w' ∧ OrdO w.heap.size w' v cs l
/-- a row of orders that grows while bytes are read -/
structure RwSt (R : RdEnv) (w : World) (s1 s2 : Value) (p : Nat) (l : List Ordr) (v : Value) (cs : List Value) (vi : Value) (ins : List Int) (wr : World) : Prop where
  rd : RdAt R p wr
  turn : Turn (· = R.g) (· = R.g) w wr
  ord : OrdO w.heap.size wr v cs l
  own : wr.ownsRow w.heap.size 3 1 vi ins.length (ints ins)
  box : wr.heap[w.heap.size]? = some (.cells #[s1, s2] 31 (0, 0))
  glt : R.g < w.heap.size
  bw : R.B ≤ w.heap.size
  small : ∀ x ∈ l, x.1.length ≤ 21 ∧ x.2.length ≤ 4
  ilen : ins.length ≤ 21
section
variable {R : RdEnv} {w wr w2 : World} {s1 s2 v v' vi : Value} {cs : List Value} {p : Nat} {l : List Ordr} {ins : List Int}
theorem RwSt.step (h : RwSt R w s1 s2 p l v cs vi ins wr) {p2 : Nat} (rd : RdAt R p2 w2) (t : Turn (· = R.g) (· = R.g) wr w2) : RwSt R w s1 s2 p2 l v cs vi ins w2 :=
  ⟨rd, h.turn.trans t, h.ord.keep fun i hi hl => t.block i hl (fun e => by have := h.glt; omega), ownsRow_block h.own (fun i hi => t.block i (h.own.lt i hi).2 (fun e => by have := (h.own.lt i hi).1; have := h.glt; omega)), (t.block _ (block_lt h.box) (fun e => by have := h.glt; omega)).trans h.box, h.glt, h.bw, h.small, h.ilen⟩
theorem RwSt.alloc (h : RwSt R w s1 s2 p l v cs vi ins wr) (o : Obj) : RwSt R w s1 s2 p l v cs vi ins (wr.alloc o) :=
  h.step (h.rd.up (below_al (Below.refl _ _) o)) ((Turn.refl _ _).alloc o)
theorem RwSt.ne (h : RwSt R w s1 s2 p l v cs vi ins wr) : v.ownBlock ≠ some w.heap.size := box_ne h.ord.out h.box (by decide)
theorem RwSt.app (h : RwSt R w s1 s2 p l v cs vi ins wr) {o : Obj} {cs2 : List Value} {l2 : List Ordr} (hg : (wr.alloc o).grownBy w2 v.ownBlock) (h2 : ∀ i (h : i < l2.length), ∃ si ki : Value, cs2[i * 2]? = some si ∧ cs2[i * 2 + 1]? = some ki ∧ wr.ownsRow w.heap.size 3 1 si l2[i].1.length (ints l2[i].1) ∧ wr.ownsRow w.heap.size 3 1 ki l2[i].2.length (ints l2[i].2))
    (ho : w2.ownsRow w.heap.size 116 2 v' (l.length + l2.length) (cs ++ cs2)) (hs : ∀ x ∈ l2, x.1.length ≤ 21 ∧ x.2.length ≤ 4) : RwSt R w s1 s2 p (l ++ l2) v' (cs ++ cs2) vi ins w2 := by
  have hlt := h.ord.out.lt
  have hz : w.heap.size ≤ wr.heap.size := h.turn.size
  have hb : Below w.heap.size wr w2 := (below_al' (Below.refl _ _) o hz).grown hg (by simp; omega) (fun k hk => (hlt k hk).1)
  have hne : 3 ≠ 116 := by decide
  refine ⟨⟨(hb.block _ h.glt).trans h.rd.blk, h.rd.below.trans (hb.mono h.bw), Nat.le_trans h.rd.size hb.size⟩, Turn.after h.turn hb, h.ord.app h2 hg ho, ?_, (far_grown hg (block_lt h.box) h.ne).trans h.box, h.glt, h.bw, ?_, h.ilen⟩
  · exact ownsRow_block h.own fun i hi => far_grown hg (h.own.lt i hi).2 (own_ne h.own h.ord.out hne hi)
  · intro x hx
    rcases List.mem_append.1 hx with hx | hx
    · exact h.small x hx
    · exact hs x hx
theorem RwSt.next (h : RwSt R w s1 s2 p l v cs vi ins wr) {vj : Value} {jns : List Int} (ho : wr.ownsRow w.heap.size 3 1 vj jns.length (ints jns)) (hl : jns.length ≤ 21) : RwSt R w s1 s2 p l v cs vj jns wr :=
  ⟨h.rd, h.turn, h.ord, ho, h.box, h.glt, h.bw, h.small, hl⟩
end
end Go.Proofs.Ytpccgdkidnkppaa

set_option linter.unusedVariables false
set_option linter.unusedSimpArgs false
namespace Go.Proofs.Ytpccgdkidnkppaa
open Go Go.RowKit

theorem two_cells {a b : Value} (ha : a.oneCell' = true) (hb : b.oneCell' = true) : ∀ u ∈ [a, b], u.oneCell' = true := by
  intro u hu
  simp only [List.mem_cons, List.not_mem_nil, or_false] at hu
  rcases hu with rfl | rfl <;> assumption

set_option maxHeartbeats 8000000 in
theorem l91Row_calls (R : RdEnv) (hR : R.Good) (p : Nat) (hp : p + 1000 ≤ 1000000) (Am At : Option Addr) (nm cm nt ct : Nat) (w : World) (h : RdAt R p w) (hn : nm ≤ 20) :
    Calls Try.prog 92 #[.pointer (some ⟨R.g, 0, none⟩), .agg #[.slice Am nm cm, .slice At nt ct]] w (DrawRw R p 800 w) := by
  have hgl := block_lt h.blk
  have hbw := h.size
  have hal := below_al (below_al (Below.refl w.heap.size w) (.cells #[.slice Am nm cm, .slice At nt ct] 31 (0, 0))) (.cells #[] 116 (0, 0))
  have hc1 := l91Inputs_calls R hR p (by omega) Am At nm cm nt ct ((w.alloc (.cells #[.slice Am nm cm, .slice At nt ct] 31 (0, 0))).alloc (.cells #[] 116 (0, 0))) (h.up hal) hn
  have hm : ((w.alloc (.cells #[.slice Am nm cm, .slice At nt ct] 31 (0, 0))).alloc (.cells #[] 116 (0, 0))).ownsRow w.heap.size 116 2 (.slice (some ⟨w.heap.size + 1, 0, none⟩) 0 0) 0 [] := by
    simpa using World.ownsRow_made (base := w.heap.size) (e := 116) (size := 2) (w.alloc (.cells #[.slice Am nm cm, .slice At nt ct] 31 (0, 0))) #[] 0 (by simp) (by simp [maxLen]) rfl
  have hS : RwSt R w (.slice Am nm cm) (.slice At nt ct) p [] (.slice (some ⟨w.heap.size + 1, 0, none⟩) 0 0) [] (.slice none 0 0) [] ((w.alloc (.cells #[.slice Am nm cm, .slice At nt ct] 31 (0, 0))).alloc (.cells #[] 116 (0, 0))) :=
    ⟨h.up hal, ((Turn.refl _ _).alloc _).alloc _, ⟨hm, fun i hi => by simp at hi⟩, World.ownsRow_nil _ _ _ _, (heap_old (by simp)).trans (heap_new rfl), hgl, hbw, fun x hx => (by cases hx), by simp⟩
  replace hc1 := Lib.hid hc1
  replace hS := Lib.hid hS
  clear h hm hal
  go_enter Try.func92, Try.ntmps92
  go_wp2_with fail
  refine hc1.out.mono ?_
  rintro e w1 ⟨p1, ins, vi, rfl, hil, hp1, hp1', hr1, ht1, hown1⟩
  have hS1 := (hS.out.step hr1 ht1).next (ownsRow_base hown1 (by simp; omega)) (by omega)
  have hc2 := pick_calls R hR p1 (by omega) 7 w1 hr1
  replace hc2 := Lib.hid hc2
  replace hS1 := Lib.hid hS1
  clear hc1 hS hr1 ht1 hown1
  go_wp2_with fail
  refine hc2.out.mono ?_
  rintro e w2 ⟨k, rfl, hk0, hk1, hr2, ht2⟩
  obtain ⟨q, rfl⟩ := Int.eq_ofNat_of_zero_le hk0
  have hq : q < 7 := by omega
  have hS2 := hS1.out.step hr2 ht2
  replace hS2 := Lib.hid hS2
  clear hc2 hS1 hr2 ht2 hk0 hk1
  go_wp2_with fail
  go_loopw [5, 6, 7, 8] (fun o vi i _ wr => ∃ (t : Nat) (l : List Ordr) (cs : List Value) (ins : List Int) (p2 : Nat), t ≤ 6 ∧ l.length + t ≤ 6 ∧ p2 + 107 * t ≤ p + 743 ∧ p ≤ p2 ∧ i = .int .i64 t ∧ Hid (RwSt R w (.slice Am nm cm) (.slice At nt ct) p2 l o cs vi ins wr)) (fun _ _ i _ _ => (intOf i).toNat)
  case atStart => exact ⟨q, [], [], ins, p1 + 1, by omega, by simp; omega, by omega, by omega, by go_num, hS2⟩
  case round =>
    obtain ⟨t, l, cs, ins2, p2, ht6, hlen, hp2, hpp, rfl, hL⟩ := hrel
    have b0 : wr.cell? ⟨w.heap.size, 0, none⟩ = some (.slice Am nm cm) := cellm hL.out.box 0
    have b1 : wr.cell? ⟨w.heap.size, 1, none⟩ = some (.slice At nt ct) := cellm hL.out.box 1
    have hz := block_lt hL.out.box
    by_cases hgo : 0 < t
    · obtain ⟨A2, c2, rfl, -, -, hia⟩ := ownsRow_ints hL.out.own
      have hc := l91Order_calls R hR p2 (by omega) Am At nm cm nt ct A2 c2 ins2 wr hL.out.rd hn (by have := hL.out.ilen; omega) hia
      have hwz := hL.out.turn.size
      replace hc := Lib.hid hc
      clear hia
      go_wp2_with fail
      refine hc.out.mono ?_
      rintro e w3 ⟨p3, ys, vy, ks, vk, rfl, hyl, hkl, hp3, hp3', hr3, ht3, hy3, hk3⟩
      have hvlt := (hL.out.step hr3 ht3).ord.out.lt
      replace hvlt := Lib.hid hvlt
      have hins := hL.out.ilen
      have hL3 := (hL.out.step hr3 ht3).alloc (.cells #[vy, vk] 116 (0, 0))
      obtain ⟨Ay, cy, rfl, -⟩ := ownsRow_cells hy3
      obtain ⟨Ak, ck, rfl, -⟩ := ownsRow_cells hk3
      have hyb := ownsRow_base (hy3.alloc (.cells #[.slice Ay ys.length cy, .slice Ak ks.length ck] 116 (0, 0))) hwz
      have hkb := ownsRow_base (hk3.alloc (.cells #[.slice Ay ys.length cy, .slice Ak ks.length ck] 116 (0, 0))) hwz
      have hz3 := hL3.turn.size
      replace hyb := Lib.hid hyb
      replace hkb := Lib.hid hkb
      replace hL3 := Lib.hid hL3
      clear hc hr3 ht3 hy3 hk3 hL b0 b1 hz
      go_wp2_with (at_builtin; go_loud (with_reducible refine wpList_app1 (by rfl) (.tmp 23) (.tmp 25) 49 (by rfl) ordTy w.heap.size u5 l.length cs (by with_unfolding_all rfl) (hL3.out.ord.out.alloc _) (w3.heap.size + 1) 1 [.slice Ay ys.length cy, .slice Ak ks.length ck] (by with_unfolding_all rfl) (by with_unfolding_all rfl) ⟨_, _, heap_new (by simp), rfl⟩ (two_cells rfl rfl) ?_ ?_ ?_ ?_))
      · unfold maxLen; omega
      · omega
      · have := hL3.out.turn.size; simp at this ⊢; omega
      intro g cap w5 hown hgrow hat
      have hL5 := hL3.out.app (l2 := [(ys, ks)]) (cs2 := [.slice Ay ys.length cy, .slice Ak ks.length ck]) (v' := .slice (some ⟨g, 0, none⟩) (l.length + 1) cap) hgrow
        (fun i hi => by
          have hi0 : i = 0 := by simp at hi; omega
          subst hi0
          exact ⟨_, _, rfl, rfl, hyb.out, hkb.out⟩) hown (fun x hx => by rw [List.mem_singleton.1 hx]; exact ⟨by show ys.length ≤ 21; omega, hkl⟩)
      have hne : 3 ≠ 116 := by decide
      have hy5 := ownsRow_block (w' := w5) hyb.out (fun i hi => far_grown hgrow (hyb.out.lt i hi).2 (own_ne hyb.out hL3.out.ord.out hne hi))
      have hL6 := hL5.next hy5 (by omega)
      have hbx := (far_grown hgrow (m := w3.heap.size) (by simp) (fun e => by have := (hvlt.out _ e).2; omega)).trans (heap_new (w := w3) (o := .cells #[.slice Ay ys.length cy, .slice Ak ks.length ck] 116 (0, 0)) rfl)
      have c0 : w5.cell? ⟨w3.heap.size, 0, none⟩ = some (.slice Ay ys.length cy) := cellm hbx 0
      replace hL6 := Lib.hid hL6
      clear hown hgrow hat hL5 hL3 hy5 hbx
      go_wp2_with fail
      go_roundw
      case rel => exact ⟨t - 1, l ++ [(ys, ks)], _, ys, p3, by omega, by simp; omega, by omega, by omega, by go_num, hL6⟩
      case measure => simp [intOf]; omega
    · have hc := pick_calls R hR p2 (by omega) 30 wr hL.out.rd
      replace hc := Lib.hid hc
      clear b0 b1 hz
      go_wp2_with fail
      refine hc.out.mono ?_
      rintro e w3 ⟨x, rfl, hx0, hx1, hr3, ht3⟩
      have hL3 := hL.out.step hr3 ht3
      replace hL3 := Lib.hid hL3
      clear hc hr3 ht3 hL
      by_cases hx : x = 0
      · subst hx
        go_wp2_with (at_builtin; go_loud (with_reducible refine wpList_appN (by rfl) (.tmp 32) (.tmp 35) 49 (by rfl) ordTy w.heap.size u5 l.length cs (by with_unfolding_all rfl) (hL3.out.ord.out.alloc _) ⟨w3.heap.size, 0, none⟩ 2 2 [.slice none 0 0, .slice none 0 0, .slice none 0 0, .slice none 0 0] (by with_unfolding_all rfl) (by with_unfolding_all rfl) (World.news_of_block (heap_alloc_new w3 _)) ?_ ?_ ?_ ?_ ?_))
        · intro u hu; simp only [List.mem_cons, List.not_mem_nil, or_false] at hu; rcases hu with rfl | rfl | rfl | rfl <;> rfl
        · unfold maxLen; omega
        · omega
        · have := hL3.out.turn.size; simp; omega
        intro v' w5 hown hgrow hat
        have hL5 := hL3.out.app (l2 := [([], []), ([], [])]) (cs2 := [.slice none 0 0, .slice none 0 0, .slice none 0 0, .slice none 0 0]) (v' := v') hgrow
          (fun i hi => by
            have hi0 : i = 0 ∨ i = 1 := by simp at hi; omega
            rcases hi0 with rfl | rfl
            · exact ⟨_, _, rfl, rfl, World.ownsRow_nil _ _ _ _, World.ownsRow_nil _ _ _ _⟩
            · exact ⟨_, _, rfl, rfl, World.ownsRow_nil _ _ _ _, World.ownsRow_nil _ _ _ _⟩) hown (fun x hx => by
              simp only [List.mem_cons, List.not_mem_nil, or_false] at hx
              rcases hx with rfl | rfl <;> simp)
        replace hL5 := Lib.hid hL5
        clear hown hgrow hat hL3
        go_wp2_with fail
        go_ret
        exact ⟨p2 + 1, _, v', _, rfl, by simp; omega, hL5.out.small, by omega, by omega, hL5.out.rd, hL5.out.turn, hL5.out.ord⟩
      · have hx' : (x == 0) = false := by simp [hx]
        go_wp2_with fail
        go_ret
        exact ⟨p2 + 1, l, u5, cs, rfl, by omega, hL3.out.small, by omega, by omega, hL3.out.rd, hL3.out.turn, hL3.out.ord⟩
end Go.Proofs.Ytpccgdkidnkppaa

set_option linter.unusedVariables false
set_option linter.unusedSimpArgs false
namespace Go.Proofs.Ytpccgdkidnkppaa
open Go Go.RowKit

/-! what draws of a sheet and a row of orders bring -/
structure ArgsR (w : World) (Am : Option Addr) (cm : Nat) (At : Option Addr) (ct : Nat) (made : List Bool) (tasks : List Task) (Ao : Option Addr) (co : Nat) (l : List Ordr) : Prop where
  sheet : SheetAt w.heap.size w Am cm At ct made tasks
  ords : OrdsAt w.heap.size w Ao l
  len : tasks.length = made.length
  small : made.length ≤ 8
  nodes : ∀ T ∈ tasks, nodes T ≤ 13
  olen : l.length ≤ 8
  osmall : ∀ x ∈ l, x.1.length ≤ 21 ∧ x.2.length ≤ 4
  ocap : l.length ≤ co
  omax : co ≤ maxLen
def DrawRowP (w : World) (e : Ending) (w' : World) : Prop :=
  ∃ Am cm At ct made tasks Ao co l, e = .returned (.tuple #[.agg #[.slice Am made.length cm, .slice At tasks.length ct], .slice Ao l.length co]) ∧ ArgsR w' Am cm At ct made tasks Ao co l ∧ Below w.heap.size w w'
theorem drawRow_done {lo : Nat} {w w4 : World} {Am At Ao : Option Addr} {cm ct co : Nat} {made : List Bool} {tasks : List Task} {l : List Ordr} (hlo : w.heap.size < lo) (hS : SheetAt w4.heap.size (mask lo w4) Am cm At ct made tasks) (hO : OrdsAt w4.heap.size (mask lo w4) Ao l)
    (h1 : tasks.length = made.length) (h2 : made.length ≤ 8) (h3 : ∀ T ∈ tasks, nodes T ≤ 13) (h4 : l.length ≤ 8) (h5 : ∀ x ∈ l, x.1.length ≤ 21 ∧ x.2.length ≤ 4) (h8 : l.length ≤ co) (h9 : co ≤ maxLen) (hb : Below w.heap.size w w4) (x y : Value) :
    DrawRowP w (.returned (.tuple #[.agg #[.slice Am made.length cm, .slice At tasks.length ct], .slice Ao l.length co])) ((w4.setCell ⟨w.heap.size, 0, none⟩ x).setCell ⟨w.heap.size, 1, none⟩ y) := by
  have hm := (mask_set w4 hlo 0 x).trans ((mask_set (w4.setCell ⟨w.heap.size, 0, none⟩ x) hlo 1 y).mono (by simp))
  have hz : w4.heap.size ≤ ((w4.setCell ⟨w.heap.size, 0, none⟩ x).setCell ⟨w.heap.size, 1, none⟩ y).heap.size := by simp
  exact ⟨Am, cm, At, ct, made, tasks, Ao, co, l, rfl, ⟨(hS.up hm hz).unmask, (hO.up hm hz).unmask, h1, h2, h3, h4, h5, h8, h9⟩,
    (hb.setCell (p := ⟨w.heap.size, 0, none⟩) (Nat.le_refl _) x).setCell (p := ⟨w.heap.size, 1, none⟩) (Nat.le_refl _) y⟩

set_option maxHeartbeats 2000000 in
theorem drawRowNew_calls (A : Option Addr) (c : Nat) (bytes : List Int) (B : Nat) (w0 w : World) (hb : Below B w0 w) (hB : B ≤ w.heap.size) (hx : RowAt (fun b : Int => Value.int .u8 b) B w0 A bytes) (hl : bytes.length ≤ c) (hc : c ≤ maxLen) (hby : ∀ b ∈ bytes, 0 ≤ b ∧ b ≤ 255) :
    Calls Try.prog 33 #[.slice A bytes.length c] w (DrawRowP w) := by
  have h0 := l6Open_calls A c bytes B w0 ((w.alloc (.cells #[.slice none 0 0, .slice none 0 0] 31 (0, 0)))) (below_al' hb _ hB) (by simp; omega) hx hl hc hby
  replace h0 := Lib.hid h0
  clear hb hx hby hl hc
  go_enter Try.func33, Try.ntmps33
  go_wp2_with fail
  refine h0.out.mono ?_
  rintro e w1 ⟨R, rfl, hR, hRB, hRw, hRg, hrd, hb1⟩
  have h1 := l91Sheet_calls R hR 0 (by omega) w1 hrd
  have hgl := block_lt hrd.blk
  have hres1 := (hb1.block w.heap.size (by simp)).trans (heap_new rfl)
  have hz1 : w.heap.size < w1.heap.size := by have := hb1.size; simp at this; omega
  have hg0 : w.heap.size < R.g := by simp at hRg; omega
  have hbw := below_from hb1
  replace h1 := Lib.hid h1
  clear hb1 h0 hRg
  go_wp2_with fail
  refine h1.out.mono ?_
  rintro e w2 ⟨p2, G, made, ts, vm, vt, rfl, hml, hm8, hm2, hp0, hp2, hrd2, ht2, hsh2⟩
  obtain ⟨Am, cm, At, ct, tasks, rfl, rfl, htl, hS2, hnd⟩ := hsh2.readsM
  have htl2 : tasks.length = made.length := by omega
  replace htl2 := Lib.hid htl2
  clear hml htl
  have hz2 : w1.heap.size ≤ w2.heap.size := ht2.size
  have hres2 := (ht2.block _ hz1 (fun e => by omega)).trans hres1
  have hbw2 : Below w.heap.size w w2 := hbw.trans (ht2.below (Nat.le_of_lt hz1) (fun i e => by cases e; omega))
  have hal := below_al (Below.refl _ w2) (.cells #[.slice Am made.length cm, .slice At tasks.length ct] 31 (0, 0))
  have h2 := l91Row_calls R hR p2 (by omega) Am At made.length cm tasks.length ct _ (hrd2.up hal) (by omega)
  have hS3 := hS2.up (mask_up hal) hal.size
  have hres3 := (hal.block _ (by omega)).trans hres2
  have hbw3 : Below w.heap.size w _ := hbw2.trans (hal.mono (by omega))
  have hbox3 := heap_alloc_new w2 (.cells #[.slice Am made.length cm, .slice At tasks.length ct] 31 (0, 0))
  replace h2 := Lib.hid h2
  replace hS3 := Lib.hid hS3
  clear h1 hrd2 ht2 hsh2 hres2 hbw2 hal hbw hres1 hrd hS2
  go_wp2_with fail
  refine h2.out.mono ?_
  rintro e w4 ⟨p3, l, vo, cs, rfl, hll, hls, hp3, hp3', hrd3, ht3, hO⟩
  obtain ⟨Ao, co, rfl, hol, hom, hO3⟩ := hO.readsM (lo := w1.heap.size) (by simp; omega)
  have hS := hS3.out.up (mask_turn ht3 (fun i e => by cases e; exact hgl)) ht3.size
  have hres := (ht3.block _ (by simp; omega) (fun e => by omega)).trans hres3
  have hbox := (ht3.block _ (by simp) (fun e => by omega)).trans hbox3
  have hbw5 : Below w.heap.size w w4 := hbw3.trans (ht3.below (by simp; omega) (fun i e => by cases e; omega))
  have hz3 : w2.heap.size < w4.heap.size := by have := ht3.size; simp at this; omega
  have x0 : w4.cell? ⟨w2.heap.size, 0, none⟩ = some (.slice Am made.length cm) := cellm hbox 0
  have x1 : w4.cell? ⟨w2.heap.size, 1, none⟩ = some (.slice At tasks.length ct) := cellm hbox 1
  have y0 : w4.cell? ⟨w.heap.size, 0, none⟩ = some (.slice none 0 0) := cellm hres 0
  have y1 : w4.cell? ⟨w.heap.size, 1, none⟩ = some (.slice none 0 0) := cellm hres 1
  have f0 : w4.frozen? ⟨w.heap.size, 0, none⟩ = false := frozenm hres 0
  have f1 : w4.frozen? ⟨w.heap.size, 1, none⟩ = false := frozenm hres 1
  have hW := setCell_block (setCell_block hres 0 (.slice Am made.length cm)) 1 (.slice At tasks.length ct)
  have hfin := drawRow_done hz1 hS hO3 htl2.out hm8 hnd hll hls hol hom hbw5 (.slice Am made.length cm) (.slice At tasks.length ct)
  replace hfin := Lib.hid hfin
  replace hW := Lib.hid hW
  clear h2 hS3 hS hO hO3 hres hbox hbw3 hbw5 ht3 hres3 hbox3 hrd3 hls
  go_wp2_with fail
  exact ret_sheet1 rfl rfl rfl (hW.out.trans rfl) hfin.out


end Go.Proofs.Ytpccgdkidnkppaa

set_option linter.unusedVariables false
set_option linter.unusedSimpArgs false
namespace Go.Proofs.Ytpccgdkidnkppaa
open Go Go.RowKit

set_option maxRecDepth 5000 in
set_option maxHeartbeats 8000000 in
theorem fnRowNew_calls (A : Option Addr) (c : Nat) (bytes : List Int) (w : World) (hx : RowAt (fun b : Int => Value.int .u8 b) w.heap.size w A bytes) (hl : bytes.length ≤ c) (hc : c ≤ maxLen) (hby : ∀ b ∈ bytes, 0 ≤ b ∧ b ≤ 255) :
    Calls Try.prog 8 #[.slice A bytes.length c] w fun e w' => e = .returned (.bool true) ∧ Below w.heap.size w w' := by
  have hcm := hc
  unfold maxLen at hcm
  by_cases hbig : 1048576 < bytes.length
  · clear hx hby
    go_enter Try.func8, Try.ntmps8
    go_wp2_with fail
    go_ret
    exact ⟨rfl, Below.refl _ _⟩
  have hdr := drawRowNew_calls A c bytes w.heap.size w w (Below.refl _ _) (Nat.le_refl _) hx hl hc hby
  replace hdr := Lib.hid hdr
  clear hx hby
  go_enter Try.func8, Try.ntmps8
  go_wp2_with fail
  refine hdr.out.mono ?_
  rintro e w1 ⟨Am, cm, At, ct, made, tasks, Ao, co, l, rfl, ha, hb1⟩
  have hnod : ∀ T ∈ tasks, nodes T ≤ 1000000000 := fun T hT => by have := ha.nodes T hT; omega
  have hsm := ha.small
  have hol := ha.olen
  have hoc := ha.ocap
  have hkb : ∀ x ∈ l, x.2.length ≤ 1048576 := fun x hx => by have := (ha.osmall x hx).2; omega
  obtain ⟨⟨rl, rb⟩, hRg, ⟨hR6, hRs⟩, hI, hS⟩ := rowNew_any made tasks l hnod (by omega) hkb
  have hI' := fun w2 (h : Below w1.heap.size w1 w2) => hI w2 Am At cm ct Ao co w1.heap.size w1 h h.size ha.sheet ha.ords ha.ocap ha.omax
  have hS' := fun w2 (h : Below w1.heap.size w1 w2) => hS w2 Am At cm ct Ao co w1.heap.size w1 h h.size ha.sheet ha.ords ha.ocap ha.omax
  have hlaw : rb = true → ∀ n0, l.length = n0 + 1 → ∃ (b o : Nat) (xs : List Int), Ao = some ⟨b, o, none⟩ ∧ rl[n0]? = some xs ∧ ∀ w2, Below w1.heap.size w1 w2 →
      Calls Try.prog 34 #[.agg #[.slice Am made.length cm, .slice At tasks.length ct], .slice (some ⟨b, o + n0 * 2, none⟩) 1 (co - n0)] w2 (fun e w' => GivesRR ([xs], true) e w2 w') := fun h n0 hn0 => by
    obtain ⟨tks, rfl, hfit, hrl⟩ := hRg h
    dsimp only at hrl
    obtain ⟨b, o, Ai, ci, Ak, ck, hA, hlt, c1, c2, hoi⟩ := ha.ords n0 (by omega)
    refine ⟨b, o, newP made tks (l[n0]'(by omega)), hA, by rw [hrl, List.getElem?_map, List.getElem?_eq_getElem (by omega)]; rfl, fun w2 hw2 => ?_⟩
    have hlm : l[n0]'(by omega) ∈ l := List.getElem_mem _
    have hf1 : RowFit made tks [l[n0]'(by omega)] := ⟨hfit.safe, by simp, fun x hx => by rw [List.mem_singleton.1 hx]; exact hfit.ok _ hlm, fun x hx => by rw [List.mem_singleton.1 hx]; exact hfit.keys _ hlm⟩
    have ho1 : OrdsAt w1.heap.size w1 (some ⟨b, o + n0 * 2, none⟩) [l[n0]'(by omega)] := fun i hi => by
      have hi0 : i = 0 := by simp at hi; omega
      subst hi0
      exact ⟨b, o + n0 * 2, Ai, ci, Ak, ck, rfl, hlt, by simpa using c1, by simpa using c2, hoi⟩
    have := rowNew_good Am At (some ⟨b, o + n0 * 2, none⟩) cm ct (co - n0) made tks [l[n0]'(by omega)] w1.heap.size w1 w2 hw2 hw2.size ha.sheet (by simp [maxLen]) ho1 hf1 (fun x hx => by rw [List.mem_singleton.1 hx]; exact hkb _ hlm) (rowFit_ok hf1)
    simp only [List.length_map]
    exact this
  have hom := ha.omax
  dsimp only at hR6 hRs
  have hal := below_al (Below.refl w1.heap.size w1) (.cells #[.slice Am made.length cm, .slice At tasks.length ct] 31 (0, 0))
  have hrll : rb = true → rl.length = l.length := fun h => by
    obtain ⟨tks, -, -, hrl⟩ := hRg h
    dsimp only at hrl
    rw [hrl, List.length_map]
  replace hI := Lib.hid hI'
  replace hS := Lib.hid hS'
  replace hlaw := Lib.hid hlaw
  replace hrll := Lib.hid hrll
  replace hal := Lib.hid hal
  replace hb1 := Lib.hid hb1
  replace hRs := Lib.hid hRs
  replace hom := Lib.hid hom
  clear ha hdr hnod hRg hI' hS' hkb
  go_wp2_with fail
  refine (hI.out _ hal.out).mono ?_
  rintro e w2 ⟨v1, vs1, rfl, hO1, h2⟩
  obtain ⟨A1, c1, rfl, hl1, hm1, hr1⟩ := hO1.rows
  dsimp only at hl1 hr1 ⊢
  have x0 : w2.cell? ⟨w1.heap.size, 0, none⟩ = some (.slice Am made.length cm) := (h2.cell (p := ⟨w1.heap.size, 0, none⟩) (by simp)).trans (by simp)
  have x1 : w2.cell? ⟨w1.heap.size, 1, none⟩ = some (.slice At tasks.length ct) := (h2.cell (p := ⟨w1.heap.size, 1, none⟩) (by simp)).trans (by simp)
  have s2 : w1.heap.size < w2.heap.size := by have := h2.size; simp at this; omega
  have b2 : Below w1.heap.size w1 w2 := below_from h2
  replace b2 := Lib.hid b2
  replace hr1 := Lib.hid hr1
  clear h2 hI hO1
  go_wp2_with fail
  refine (hS.out _ b2.out).mono ?_
  rintro e w3 ⟨v2, vs2, rfl, hO2, h3⟩
  obtain ⟨A2, c2, rfl, hl2, hm2, hr2⟩ := hO2.rows
  dsimp only at hl2 hr2 ⊢
  have y0 := kept_cell h3 s2 x0
  have y1 := kept_cell h3 s2 x1
  have s3 : w1.heap.size < w3.heap.size := by have := h3.size; omega
  have b3 := b2.out.trans (h3.mono (Nat.le_of_lt s2))
  have hr13 := hr1.out.up h3 h3.size
  have hbr := brRows_calls A1 c1 A2 c2 rl w3 hr13 hr2 (by omega) hRs.out
  have hneq : (rb != rb) = false := by cases rb <;> rfl
  replace b3 := Lib.hid b3
  replace hr13 := Lib.hid hr13
  replace hbr := Lib.hid hbr
  clear h3 x0 x1 b2 hr2 hS hr1 hO2
  go_wp2_with fail
  refine hbr.out.mono ?_
  rintro e w4 ⟨rfl, h4⟩
  have z0 := kept_cell h4 s3 y0
  have z1 := kept_cell h4 s3 y1
  have s4 : w1.heap.size < w4.heap.size := by have := h4.size; omega
  have b4 := b3.out.trans (h4.mono b3.out.size)
  have hr14 := hr13.out.up h4 h4.size
  replace b4 := Lib.hid b4
  replace hr14 := Lib.hid hr14
  clear h4 y0 y1 b3 hr13 hbr
  cases rb with
  | false =>
    clear hlaw hrll
    go_wp2_with fail
    go_ret
    exact ⟨rfl, hb1.out.trans (b4.out.mono hb1.out.size)⟩
  | true =>
    have hrlen := hrll.out rfl
    cases hn : l.length with
    | zero =>
      rw [hn] at hrlen
      replace hrlen := Lib.hid hrlen
      replace hn := Lib.hid hn
      clear hlaw hrll
      go_wp2_with fail
      go_ret
      exact ⟨rfl, hb1.out.trans (b4.out.mono hb1.out.size)⟩
    | succ n0 =>
      obtain ⟨b, o, xs, rfl, hxs, hcall⟩ := hlaw.out rfl n0 hn
      obtain ⟨hsl1, hsl2⟩ := slice_last b o n0 co (by omega) hom.out
      have hn6 : n0 + 1 ≤ 8 := by omega
      have hwn : IntKind.i64.wrap (n0 : Int) = n0 := by rw [IntKind.wrap_i64]; omega
      have hcn : ¬ co = n0 := by omega
      have hn0l : n0 < rl.length := by omega
      have hget : rl[n0] = xs := by rw [List.getElem?_eq_getElem hn0l] at hxs; exact Option.some.inj hxs
      obtain ⟨b9, o9, Ar, cr, rfl, hb9, cc, hia⟩ := hr14.out.at (Below.refl _ _) (Nat.le_refl _) n0 hn0l
      rw [hget] at cc hia
      have hxl : xs.length ≤ 1048576 := by rw [← hget]; exact hRs.out _ (List.getElem_mem _)
      have hcl := hcall w4.drew b4.out.drew
      have hrn : rl.length = n0 + 1 := by omega
      replace hcl := Lib.hid hcl
      replace hia := Lib.hid hia
      replace hget := Lib.hid hget
      replace hxs := Lib.hid hxs
      rw [hrn]
      clear hcall hlaw hrll hrlen hr14
      replace hn := Lib.hid hn
      replace hrn := Lib.hid hrn
      go_wp2_with fail
      go_region_held3 (fun w' => w'.cell? ⟨w1.heap.size, 0, none⟩ = some (.slice Am made.length cm) ∧ w'.cell? ⟨w1.heap.size, 1, none⟩ = some (.slice At tasks.length ct) ∧ w'.cell? ⟨b9, o9 + n0, none⟩ = some (.slice Ar xs.length cr)) (first | exact ⟨l1, l2, l3⟩ | exact ⟨z0, z1, cc⟩)
        (first | (go_at_call 34; refine hcl.out.mono ?_; rintro e w10 ⟨v10, vs10, rfl, hO10, h10⟩; obtain ⟨A10, c10, rfl, -, hm10, hr10⟩ := hO10.rows; have l1 := kept_cell h10 s4 z0; have l2 := kept_cell h10 s4 z1; have l3 := kept_cell h10 hb9 cc; replace hr10 := Lib.hid hr10; clear hO10))
      all_goals
        obtain ⟨b5, o5, Ar5, cr5, rfl, hb5, cc5, hia5⟩ := hr10.out.at (Below.refl _ _) (Nat.le_refl _) 0 (by simp)
        have hia2 := hia.out.up (Below.refl _ _).drew (Nat.le_refl w4.heap.size)
        have hia3 := hia2.up h10 h10.size
        simp only [List.getElem_cons_zero] at cc5 hia5
        rw [Nat.add_zero] at cc5
        have hk := brInts_calls Ar5 cr5 xs Ar cr xs w10.drew (hia5.up (Below.refl _ _).drew (Nat.le_refl _)) (hia3.up (Below.refl _ _).drew (Nat.le_refl _)) (by unfold maxLen; omega) (by unfold maxLen; omega)
        rw [decide_eq_true rfl] at hk
        have hb9' : b9 < w10.heap.size := Nat.lt_of_lt_of_le hb9 (show w4.heap.size ≤ w10.heap.size from h10.size)
        have hbt := b4.out.drew.trans (h10.mono b4.out.size)
        replace hk := Lib.hid hk
        replace hbt := Lib.hid hbt
        clear hia2 hia3 hia5 h10 l1 l2 hr10 z0 z1 cc
        have hi0 : (0 : Int) ≤ (n0 : Int) := by omega
        have hi1 : (n0 : Int) < (n0 : Int) + 1 := by omega
        go_wp2_with fail
        go_region_held3 (fun w' => w'.cell? ⟨b5, o5, none⟩ = some (.slice Ar5 xs.length cr5) ∧ w'.cell? ⟨b9, o9 + n0, none⟩ = some (.slice Ar xs.length cr)) (first | exact ⟨m1, m2⟩ | exact ⟨cc5, l3⟩)
          (first | (go_at_call 23; refine hk.out.mono ?_; rintro e w11 ⟨rfl, h11⟩; have m1 := kept_cell h11 hb5 cc5; have m2 := kept_cell h11 hb9' l3))
        all_goals
          have hbf := hbt.out.drew.trans (h11.mono hbt.out.size)
          replace hbf := Lib.hid hbf
          clear h11 m1 m2 cc5 l3
          go_wp2_with fail
          go_ret
          exact ⟨rfl, hb1.out.trans (hbf.out.mono hb1.out.size)⟩
end Go.Proofs.Ytpccgdkidnkppaa

set_option linter.unusedVariables false
namespace Go.Proofs.Ytpccgdkidnkppaa
open Go Go.RowKit

theorem byte_row {w : World} {x : Addr} {zs : List Int} (len : Nat) (hcell : ∀ i, i < zs.length → w.cell? (x.add i) = some (.int .u8 (zs.getD i 0))) : RowAt (fun b : Int => Value.int .u8 b) w.heap.size w (some x) (zs.take len) := by
  intro i hi
  have hl : i < zs.length := by simp at hi; omega
  obtain ⟨b, off, rfl, h⟩ := ints_at hcell (by omega)
  have h1 := h i hl
  refine ⟨b, off, rfl, ?_, ?_⟩
  · by_cases hb : b < w.heap.size
    · exact hb
    · exfalso
      have h2 : w.heap[b]? = none := by simp; omega
      simp [World.cell?, h2] at h1
  · rw [h1]; simp [hl]
theorem byte_vals {zs : List Int} (len : Nat) (h : ∀ n ∈ zs, (Lit.int .u8 n).wf = true) : ∀ b ∈ zs.take len, 0 ≤ b ∧ b ≤ 255 :=
  fun b hb => bounds_u8 (h b (List.mem_of_mem_take hb))
end Go.Proofs.Ytpccgdkidnkppaa
