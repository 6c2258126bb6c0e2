import Derived.OwnWalk
import Derived.Test.YtpccgdkidnkppaaPk7FnWorkValues
import Derived.Test.YtpccgdkidnkppaaPk8FnWorkValues
import Derived.Test.YtpccgdkidnkppaaPk14FnWorkValues
import Derived.Test.YtpccgdkidnkppaaPk15FnWorkValues
import Derived.Test.YtpccgdkidnkppaaPk16FnWorkValues
import Derived.Test.YtpccgdkidnkppaaPk17FnWorkValues
set_option linter.unusedVariables false
set_option linter.unusedSimpArgs false
namespace Go.Proofs.Ytpccgdkidnkppaa
open Go Go.RowKit

/-- the reference's values and what is done, as what is built -/
structure SRel (S : Sh) (kn : Int → Option Int) (vals done : List Int) : Prop where
  len : vals.length = S.made.length
  rng : ∀ x ∈ vals, 0 ≤ x ∧ x ≤ 96
  made : ∀ k, mkK S.made k = true → kn k = if done.contains k then some (atK vals k) else none
  un : ∀ k, mkK S.made k = false → atK vals k = atK S.inputs k
def GivesTryS (r : (Int × Bool) × Int) (w : World) (e : Ending) (w' : World) : Prop := e = .returned (.tuple #[.int .i64 r.1.1, .int .i64 r.2, .bool r.1.2]) ∧ Below w.heap.size w w'
structure GotR (w1 : World) (got : List Int) (vg : Value) (wr : World) : Prop where
  own : wr.ownsRow w1.heap.size 3 1 vg got.length (ints got)
  below : Below w1.heap.size w1 wr
  vals : ∀ x ∈ got, 0 ≤ x ∧ x ≤ 96
theorem GotR.up {w1 : World} {got : List Int} {vg : Value} {wr w2 : World} (h : GotR w1 got vg wr) (hb : Below wr.heap.size wr w2) : GotR w1 got vg w2 :=
  ⟨ownsRow_block h.own (fun i hi => hb.block i (h.own.lt i hi).2), below_up h.below hb, h.vals⟩
theorem GotR.get {w1 : World} {got : List Int} {vg v' : Value} {wr w2 : World} {o : Obj} {x : Int} (h : GotR w1 got vg wr) (hg : (wr.alloc o).grownBy w2 vg.ownBlock) (ho : w2.ownsRow w1.heap.size 3 1 v' (got.length + 1) (ints got ++ [.int .i64 x])) (hx : 0 ≤ x ∧ x ≤ 96) : GotR w1 (got ++ [x]) v' w2 := by
  have hz := h.below.size
  have ha := h.own.alloc o
  exact ⟨by rw [ints_append, List.length_append, List.length_singleton]; exact ho, (below_al' h.below o hz).grown hg (by simp; omega) (fun i hi => (h.own.lt i hi).1),
    fun y hy => (List.mem_append.1 hy).elim (h.vals y) (fun e => by rw [List.mem_singleton.1 e]; exact hx)⟩

set_option maxRecDepth 5000 in
set_option maxHeartbeats 8000000 in
theorem l4Try_calls (S : Sh) (hS : S.Ok) (Am At Av Ad : Option Addr) (cm ct cv cd : Nat) (kn : Int → Option Int) (vals done : List Int) (hR : SRel S kn vals done) (B : Nat) (w0 w : World) (hb : Below B w0 w) (hB : B ≤ w.heap.size) (hs : SheetAt B w0 Am cm At ct S.made (S.tks.map Tk.enc)) (hv : IntsAt w.heap.size w Av vals) (hd : IntsAt w.heap.size w Ad done) (hdl : done.length ≤ 1000)
    (q : Nat) (hq : q < S.tks.length) :
    Calls Try.prog 89 #[.agg #[.slice Am S.made.length cm, .slice At S.tks.length ct], .slice Av vals.length cv, .slice Ad done.length cd, .int .i64 (q : Int)] w (GivesTryS (tryR S kn q) w) := by
  have hok := hS.tks _ (List.getElem_mem hq)
  have hokT := hS.okT hq
  have hten := hS.ten
  have ht : S.tk q = S.tks[q] := tk_at hq
  have hitr : tryR S kn q = S.tks[q].itr.run (tryF S kn) (-1) := by unfold tryR; rw [ht]
  have hiok := Tk.itr_ok S.tks[q] hok
  have hile := Tk.itr_le S.tks[q]
  have hfl : S.tks[q].fets ≤ 100 := by have h1 := fets_le S.tks[q]; unfold okT at hokT; rw [Bool.and_eq_true, decide_eq_true_eq] at hokT; omega
  obtain ⟨b, o, A', c', rfl, hbl, z0, z1, z2, hpc, hpm, hp⟩ := (PartsIs.up hb hB _ _ _ hs.tasks).at (Below.refl _ w) q (by simpa using hq)
  simp only [List.getElem_map] at z0 z1 z2 hpc hp
  have hlt := hs.mt
  have hlt2 := hs.lt
  simp only [List.length_map] at hlt2
  have hml := hs.lm
  have hmm := hs.mm
  unfold maxLen at hlt hpm hmm
  have hmade := hs.made.up hb hB
  have hnx := fun (got : List Int) (Ag : Option Addr) (cg : Nat) (w1 : World) (hw : Below w.heap.size w w1) (hg : IntsAt w1.heap.size w1 Ag got) (hgv : ∀ x ∈ got, 0 ≤ x ∧ x ≤ 96) (hl : got.length ≤ 1000000) =>
    l2Next_calls S.tks[q] A' c' got Ag cg w.heap.size w w1 hw hw.size hok hpc hp hg hgv hl
  have hof := fun (k : Int) (hk : 0 ≤ k) (w1 : World) (hw : Below w.heap.size w w1) => l2Of_calls Av cv vals k hk w.heap.size w w1 hw hw.size (by have := hR.len; unfold maxLen; omega) hv
  have hha := fun (k : Int) (w1 : World) (hw : Below w.heap.size w w1) => l2Has_calls Ad cd done k w.heap.size w w1 hw hw.size (by unfold maxLen; omega) hd
  generalize tryR S kn q = Q at *
  generalize S.tks[q] = t at *
  have a0 : ((w.alloc (.cells #[.slice Am S.made.length cm, .slice (some ⟨b, o, none⟩) S.tks.length ct] 31 (0, 0))).alloc (.cells #[] 3 (0, 0))).cell? ⟨b, o + q * 3, none⟩ = some (.int .i64 t.enc.kind) := (cell_al (by simp; omega)).trans ((cell_al hbl).trans z0)
  have a1 : ((w.alloc (.cells #[.slice Am S.made.length cm, .slice (some ⟨b, o, none⟩) S.tks.length ct] 31 (0, 0))).alloc (.cells #[] 3 (0, 0))).cell? ⟨b, o + q * 3 + 1, none⟩ = some (.int .i64 t.enc.n) := (cell_al (by simp; omega)).trans ((cell_al hbl).trans z1)
  have a2 : ((w.alloc (.cells #[.slice Am S.made.length cm, .slice (some ⟨b, o, none⟩) S.tks.length ct] 31 (0, 0))).alloc (.cells #[] 3 (0, 0))).cell? ⟨b, o + q * 3 + 2, none⟩ = some (.slice A' t.enc.parts.length c') := (cell_al (by simp; omega)).trans ((cell_al hbl).trans z2)
  replace hnx := Lib.hid hnx
  replace hof := Lib.hid hof
  replace hha := Lib.hid hha
  replace hitr := Lib.hid hitr
  replace hiok := Lib.hid hiok
  replace hile := Lib.hid hile
  replace hmade := Lib.hid hmade
  replace hR := Lib.hid hR
  clear hs hb hp hok hv hd ht hokT hS
  go_enter Try.func89, Try.ntmps89
  go_wp2_with fail
  obtain ⟨w1, hw1⟩ : ∃ w1, w1 = w.alloc (.cells #[.slice Am S.made.length cm, .slice (some ⟨b, o, none⟩) S.tks.length ct] 31 (0, 0)) := ⟨_, rfl⟩
  have hs1 : w.heap.size < w1.heap.size := by rw [hw1]; simp
  have hb1 : Below w.heap.size w w1 := by rw [hw1]; exact below_al (Below.refl _ _) _
  have x0 : w1.cell? ⟨w.heap.size, 0, none⟩ = some (.slice Am S.made.length cm) := by rw [hw1]; simp
  have x1 : w1.cell? ⟨w.heap.size, 1, none⟩ = some (.slice (some ⟨b, o, none⟩) S.tks.length ct) := by rw [hw1]; simp
  have hL0 : GotR w1 [] (.slice (some ⟨w1.heap.size, 0, none⟩) 0 0) (w1.alloc (.cells #[] 3 (0, 0))) :=
    ⟨by simpa [ints] using World.ownsRow_made (base := w1.heap.size) (size := 1) w1 #[] 0 (Nat.le_refl _) (by simp [maxLen]) rfl, below_al (Below.refl _ _) _, fun x hx => by cases hx⟩
  have hsz1 : w.heap.size + 1 = w1.heap.size := by rw [hw1]; simp
  rw [← hsz1] at hL0
  rw [← hw1]
  have hcall := hnx.out [] (some ⟨w.heap.size + 1, 0, none⟩) 0 _ (hb1.trans (hL0.below.mono (Nat.le_of_lt hs1))) (RowAt.nil _ _ _ _) (fun x hx => by cases hx) (by simp)
  replace hb1 := Lib.hid hb1
  replace x0 := Lib.hid x0
  replace x1 := Lib.hid x1
  replace z0 := Lib.hid z0
  replace z1 := Lib.hid z1
  replace z2 := Lib.hid z2
  replace hL0 := Lib.hid hL0
  replace hw1 := Lib.hid hw1
  replace hsz1 := Lib.hid hsz1
  replace hcall := Lib.hid hcall
  clear a0 a1 a2
  refine hcall.out.mono ?_
  rintro e w2 ⟨rfl, v0, v1, h2⟩
  have hL2 := hL0.out.up h2
  replace hL2 := Lib.hid hL2
  clear h2 hL0 hcall v0 v1
  go_wp2_with fail
  go_loopw [11, 12, 13, 14] (fun vg v ky ok wr => ∃ (got : List Int), got.length ≤ t.fets ∧ v = .int .i64 (nextP t.itr got).1 ∧ ky = .int .i64 (nextP t.itr got).2.1 ∧ ok = .bool (nextP t.itr got).2.2 ∧
    Hid (GotR w1 got vg wr) ∧ Hid (Q = (t.itr.walk got).run (tryF S kn) (-1))) (fun vg _ _ _ _ => t.fets - lenOf vg)
  case atStart => exact ⟨[], Nat.zero_le _, rfl, rfl, rfl, hL2, Lib.hid (by rw [hitr.out, Itr.walk_nil])⟩
  case round =>
    obtain ⟨got, hgf, rfl, rfl, rfl, hL, hEq⟩ := hrel
    have hwr := hb1.out.trans (hL.out.below.mono (Nat.le_of_lt hs1))
    have hwz := hL.out.below.size
    have y0 := (hL.out.below.cell (p := ⟨w.heap.size, 0, none⟩) hs1).trans x0.out
    have y1 := (hL.out.below.cell (p := ⟨w.heap.size, 1, none⟩) hs1).trans x1.out
    replace hwr := Lib.hid hwr
    cases hw : t.itr.walk got with
    | done x =>
      obtain ⟨n1, n2⟩ := nextP_done hw
      have he := hEq.out
      rw [hw] at he
      have he2 : Q = ((x, true), -1) := he
      rw [n1, n2]
      replace he2 := Lib.hid he2
      clear hw n1 n2 he hEq hL
      go_wp2_with fail
      go_ret3
      rw [he2.out]
      exact ⟨rfl, hwr.out⟩
    | ask ky ct2 =>
      have hnp := nextP_ask hw
      have hkr := Itr.walk_ok got _ hiok.out
      rw [hw] at hkr
      obtain ⟨hk0', hk9', -⟩ := hkr
      have hglt := Itr.walk_le got _ _ hile.out ky ct2 hw
      have he := hEq.out
      rw [hw] at he
      rw [hnp]
      obtain ⟨Ag, cg, evg, hg1, hg2, -⟩ := ownsRow_ints hL.out.own
      subst evg
      unfold maxLen at hg2
      have hnext : ∀ x : Int, tryF S kn (-1) ky = ((x, true), -1) → Q = (t.itr.walk (got ++ [x])).run (tryF S kn) (-1) := fun x hx => by
        rw [he, Itr.run_yes (by rw [hx]), hx, Itr.walk_append, hw, Itr.walk, Itr.walk_nil]
      have hnot : tryF S kn (-1) ky = ((0, false), ky) → Q = ((0, false), ky) := fun hx => by
        rw [he, Itr.run_no (by rw [hx]; simp), hx]
      obtain ⟨ky, rfl⟩ := Int.eq_ofNat_of_zero_le hk0'
      have hof1 := hof.out ky hk0'
      have hha1 := hha.out ky
      replace hnext := Lib.hid hnext
      replace hnot := Lib.hid hnot
      replace hof1 := Lib.hid hof1
      replace hha1 := Lib.hid hha1
      replace hnp := Lib.hid hnp
      replace hw := Lib.hid hw
      clear hEq he
      by_cases hlt3 : ky < S.made.length
      · obtain ⟨b2, o2, rfl, hb2, hc3⟩ := hmade.out.at hwr.out hwr.out.size ky hlt3
        have hmkk : mkK S.made ky = S.made[ky] := by unfold mkK; rw [if_neg (by omega)]; exact getD_at _ _
        replace hmkk := Lib.hid hmkk
        cases hmd : S.made[ky] with
        | false =>
          rw [hmd] at hc3
          have hmf : mkK S.made ky = false := by rw [hmkk.out, hmd]
          have htf : tryF S kn (-1) ky = ((atK vals ky, true), -1) := by unfold tryF; rw [if_pos hmf, hR.out.un _ hmf]
          replace hmf := Lib.hid hmf
          replace hmd := Lib.hid hmd
          have hxx : 0 ≤ atK vals ky ∧ atK vals ky ≤ 96 := by
            unfold atK
            split
            · omega
            · by_cases h1 : (ky : Int).toNat < vals.length
              · rw [getD_at _ h1]; exact hR.out.rng _ (List.getElem_mem _)
              · rw [getD_out _ (by omega)]; omega
          have he2 := hnext.out _ htf
          generalize atK vals ky = x at *
          replace he2 := Lib.hid he2
          replace htf := Lib.hid htf
          have hc1 := hof1.out wr hwr.out
          replace hc1 := Lib.hid hc1
          go_wp2_with fail
          refine hc1.out.mono ?_
          rintro e w3 ⟨rfl, rfl⟩
          clear hc1
          go_wp2_with (at_builtin; go_loud (with_reducible refine wpList_app1 (by rfl) (.tmp 48) (.tmp 52) 26 (by rfl) intTy w1.heap.size (.slice Ag got.length cg) got.length (ints got) (by with_unfolding_all rfl) (hL.out.own.alloc _) wr.heap.size 1 [.int .i64 x] (by with_unfolding_all rfl) (by with_unfolding_all rfl) ⟨_, _, heap_alloc_new wr _, rfl⟩ (one_int _ _) ?_ ?_ ?_ ?_))
          · unfold maxLen; omega
          · omega
          · simp; omega
          intro g7 cap7 w7 hown7 hgrow7 hat7
          have hL7 := hL.out.get hgrow7 hown7 hxx
          have hwr7 := hb1.out.trans (hL7.below.mono (Nat.le_of_lt hs1))
          have hwz7 := hL7.below.size
          have v0 := (hL7.below.cell (p := ⟨w.heap.size, 0, none⟩) hs1).trans x0.out
          have v1 := (hL7.below.cell (p := ⟨w.heap.size, 1, none⟩) hs1).trans x1.out
          have t0 := (hwr7.cell (p := ⟨b, o + q * 3, none⟩) hbl).trans z0.out
          have t1 := (hwr7.cell (p := ⟨b, o + q * 3 + 1, none⟩) hbl).trans z1.out
          have t2 := (hwr7.cell (p := ⟨b, o + q * 3 + 2, none⟩) hbl).trans z2.out
          have hlen7 : (got ++ [x]).length = got.length + 1 := by simp
          have hi7 := hL7.own
          rw [hlen7] at hi7
          have hii : IntsAt w7.heap.size w7 (some ⟨g7, 0, none⟩) (got ++ [x]) := ownsRow_ints_of (c := cap7) (by rw [hlen7]; exact hi7)
          have hc2 := hnx.out (got ++ [x]) (some ⟨g7, 0, none⟩) cap7 w7 hwr7 hii hL7.vals (by simp; omega)
          rw [hlen7] at hc2
          replace hc2 := Lib.hid hc2
          replace hL7 := Lib.hid hL7
          replace hlen7 := Lib.hid hlen7
          clear hown7 hgrow7 hat7 hL hi7 hii hwr7 hwr y0 y1
          go_wp2_with fail
          refine hc2.out.mono ?_
          rintro e w8 ⟨rfl, v0', v1', h8⟩
          have hL8 := hL7.out.up h8
          replace hL8 := Lib.hid hL8
          clear hc2 hL7 h8 v0 v1 t0 t1 t2
          go_wp2_with fail
          go_roundw
          case rel => exact ⟨got ++ [x], by rw [hlen7.out]; omega, rfl, rfl, rfl, hL8, he2⟩
          case measure => simp only [lenOf]; omega
        | true =>
          rw [hmd] at hc3
          have hmf : mkK S.made ky = true := by rw [hmkk.out, hmd]
          have hkn := hR.out.made ky hmf
          cases hcn : done.contains (ky : Int) with
          | true =>
            have htf : tryF S kn (-1) ky = ((atK vals ky, true), -1) := by
              unfold tryF
              rw [if_neg (by simp [hmf]), hkn, hcn]
              rfl
            have hh := hha1.out wr hwr.out
            rw [hcn] at hh
            replace hh := Lib.hid hh
            replace hcn := Lib.hid hcn
            replace hkn := Lib.hid hkn
            replace hmf := Lib.hid hmf
            replace hmd := Lib.hid hmd
            have hxx : 0 ≤ atK vals ky ∧ atK vals ky ≤ 96 := by
              unfold atK
              split
              · omega
              · by_cases h1 : (ky : Int).toNat < vals.length
                · rw [getD_at _ h1]; exact hR.out.rng _ (List.getElem_mem _)
                · rw [getD_out _ (by omega)]; omega
            have he2 := hnext.out _ htf
            generalize atK vals ky = x at *
            replace he2 := Lib.hid he2
            replace htf := Lib.hid htf
            have hc1 := hof1.out wr hwr.out
            replace hc1 := Lib.hid hc1
            go_wp2_with fail
            refine hh.out.mono ?_
            rintro e w3 ⟨rfl, rfl⟩
            go_wp2_with fail
            refine hc1.out.mono ?_
            rintro e w3 ⟨rfl, rfl⟩
            clear hc1
            go_wp2_with (at_builtin; go_loud (with_reducible refine wpList_app1 (by rfl) (.tmp 48) (.tmp 52) 26 (by rfl) intTy w1.heap.size (.slice Ag got.length cg) got.length (ints got) (by with_unfolding_all rfl) (hL.out.own.alloc _) wr.heap.size 1 [.int .i64 x] (by with_unfolding_all rfl) (by with_unfolding_all rfl) ⟨_, _, heap_alloc_new wr _, rfl⟩ (one_int _ _) ?_ ?_ ?_ ?_))
            · unfold maxLen; omega
            · omega
            · simp; omega
            intro g7 cap7 w7 hown7 hgrow7 hat7
            have hL7 := hL.out.get hgrow7 hown7 hxx
            have hwr7 := hb1.out.trans (hL7.below.mono (Nat.le_of_lt hs1))
            have hwz7 := hL7.below.size
            have v0 := (hL7.below.cell (p := ⟨w.heap.size, 0, none⟩) hs1).trans x0.out
            have v1 := (hL7.below.cell (p := ⟨w.heap.size, 1, none⟩) hs1).trans x1.out
            have t0 := (hwr7.cell (p := ⟨b, o + q * 3, none⟩) hbl).trans z0.out
            have t1 := (hwr7.cell (p := ⟨b, o + q * 3 + 1, none⟩) hbl).trans z1.out
            have t2 := (hwr7.cell (p := ⟨b, o + q * 3 + 2, none⟩) hbl).trans z2.out
            have hlen7 : (got ++ [x]).length = got.length + 1 := by simp
            have hi7 := hL7.own
            rw [hlen7] at hi7
            have hii : IntsAt w7.heap.size w7 (some ⟨g7, 0, none⟩) (got ++ [x]) := ownsRow_ints_of (c := cap7) (by rw [hlen7]; exact hi7)
            have hc2 := hnx.out (got ++ [x]) (some ⟨g7, 0, none⟩) cap7 w7 hwr7 hii hL7.vals (by simp; omega)
            rw [hlen7] at hc2
            replace hc2 := Lib.hid hc2
            replace hL7 := Lib.hid hL7
            replace hlen7 := Lib.hid hlen7
            clear hown7 hgrow7 hat7 hL hi7 hii hwr7 hwr y0 y1
            go_wp2_with fail
            refine hc2.out.mono ?_
            rintro e w8 ⟨rfl, v0', v1', h8⟩
            have hL8 := hL7.out.up h8
            replace hL8 := Lib.hid hL8
            clear hc2 hL7 h8 v0 v1 t0 t1 t2
            go_wp2_with fail
            go_roundw
            case rel => exact ⟨got ++ [x], by rw [hlen7.out]; omega, rfl, rfl, rfl, hL8, he2⟩
            case measure => simp only [lenOf]; omega
          | false =>
            have htf : tryF S kn (-1) (ky : Int) = ((0, false), (ky : Int)) := by
              unfold tryF
              rw [if_neg (by simp [hmf]), hkn, hcn]
              rfl
            have he2 := hnot.out htf
            have hh := hha1.out wr hwr.out
            rw [hcn] at hh
            replace hh := Lib.hid hh
            replace hcn := Lib.hid hcn
            replace hkn := Lib.hid hkn
            replace hmf := Lib.hid hmf
            replace hmd := Lib.hid hmd
            replace htf := Lib.hid htf
            replace he2 := Lib.hid he2
            go_wp2_with fail
            refine hh.out.mono ?_
            rintro e w3 ⟨rfl, rfl⟩
            go_wp2_with fail
            go_ret3
            rw [he2.out]
            exact ⟨rfl, hwr.out⟩
      · have hmf : mkK S.made ky = false := by unfold mkK; rw [if_neg (by omega)]; exact getD_out _ (by omega)
        have htf : tryF S kn (-1) ky = ((atK vals ky, true), -1) := by unfold tryF; rw [if_pos hmf, hR.out.un _ hmf]
        replace hmf := Lib.hid hmf
        have hxx : 0 ≤ atK vals ky ∧ atK vals ky ≤ 96 := by
          unfold atK
          split
          · omega
          · by_cases h1 : (ky : Int).toNat < vals.length
            · rw [getD_at _ h1]; exact hR.out.rng _ (List.getElem_mem _)
            · rw [getD_out _ (by omega)]; omega
        have he2 := hnext.out _ htf
        generalize atK vals ky = x at *
        replace he2 := Lib.hid he2
        replace htf := Lib.hid htf
        have hc1 := hof1.out wr hwr.out
        replace hc1 := Lib.hid hc1
        go_wp2_with fail
        refine hc1.out.mono ?_
        rintro e w3 ⟨rfl, rfl⟩
        clear hc1
        go_wp2_with (at_builtin; go_loud (with_reducible refine wpList_app1 (by rfl) (.tmp 48) (.tmp 52) 26 (by rfl) intTy w1.heap.size (.slice Ag got.length cg) got.length (ints got) (by with_unfolding_all rfl) (hL.out.own.alloc _) wr.heap.size 1 [.int .i64 x] (by with_unfolding_all rfl) (by with_unfolding_all rfl) ⟨_, _, heap_alloc_new wr _, rfl⟩ (one_int _ _) ?_ ?_ ?_ ?_))
        · unfold maxLen; omega
        · omega
        · simp; omega
        intro g7 cap7 w7 hown7 hgrow7 hat7
        have hL7 := hL.out.get hgrow7 hown7 hxx
        have hwr7 := hb1.out.trans (hL7.below.mono (Nat.le_of_lt hs1))
        have hwz7 := hL7.below.size
        have v0 := (hL7.below.cell (p := ⟨w.heap.size, 0, none⟩) hs1).trans x0.out
        have v1 := (hL7.below.cell (p := ⟨w.heap.size, 1, none⟩) hs1).trans x1.out
        have t0 := (hwr7.cell (p := ⟨b, o + q * 3, none⟩) hbl).trans z0.out
        have t1 := (hwr7.cell (p := ⟨b, o + q * 3 + 1, none⟩) hbl).trans z1.out
        have t2 := (hwr7.cell (p := ⟨b, o + q * 3 + 2, none⟩) hbl).trans z2.out
        have hlen7 : (got ++ [x]).length = got.length + 1 := by simp
        have hi7 := hL7.own
        rw [hlen7] at hi7
        have hii : IntsAt w7.heap.size w7 (some ⟨g7, 0, none⟩) (got ++ [x]) := ownsRow_ints_of (c := cap7) (by rw [hlen7]; exact hi7)
        have hc2 := hnx.out (got ++ [x]) (some ⟨g7, 0, none⟩) cap7 w7 hwr7 hii hL7.vals (by simp; omega)
        rw [hlen7] at hc2
        replace hc2 := Lib.hid hc2
        replace hL7 := Lib.hid hL7
        replace hlen7 := Lib.hid hlen7
        clear hown7 hgrow7 hat7 hL hi7 hii hwr7 hwr y0 y1
        go_wp2_with fail
        refine hc2.out.mono ?_
        rintro e w8 ⟨rfl, v0', v1', h8⟩
        have hL8 := hL7.out.up h8
        replace hL8 := Lib.hid hL8
        clear hc2 hL7 h8 v0 v1 t0 t1 t2
        go_wp2_with fail
        go_roundw
        case rel => exact ⟨got ++ [x], by rw [hlen7.out]; omega, rfl, rfl, rfl, hL8, he2⟩
        case measure => simp only [lenOf]; omega
end Go.Proofs.Ytpccgdkidnkppaa

set_option linter.unusedVariables false
set_option linter.unusedSimpArgs false
namespace Go.Proofs.Ytpccgdkidnkppaa
open Go Go.RowKit

theorem row_cells {w : World} {base : Nat} {e : TypeId} {g cap n : Nat} {xs : List Int} (h : w.ownsRow base e 1 (.slice (some ⟨g, 0, none⟩) n cap) n (ints xs)) (i : Nat) (hi : i < xs.length) : w.cell? ⟨g, i, none⟩ = some (.int .i64 xs[i]) ∧ w.frozen? ⟨g, i, none⟩ = false := by
  refine ⟨?_, ?_⟩
  · have := h.cells (g := g) rfl i (.int .i64 xs[i]) (by simp [ints, hi])
    rw [Addr.add_lit] at this
    simpa using this
  · obtain ⟨_, ⟨h2, _⟩ | ⟨g', cap', cur, h2, h3, h4, h5, h6, h7, h8⟩⟩ := h
    · cases h2
    · cases h2; exact frozenm h4 i
theorem row_frozen {w : World} {base : Nat} {e : TypeId} {g cap n : Nat} {xs : List Value} (h : w.ownsRow base e 1 (.slice (some ⟨g, 0, none⟩) n cap) n xs) (i : Nat) : w.frozen? ⟨g, i, none⟩ = false := by
  obtain ⟨_, ⟨h2, _⟩ | ⟨g', cap', cur, h2, h3, h4, h5, h6, h7, h8⟩⟩ := h
  · cases h2
  · cases h2; exact frozenm h4 i
end Go.Proofs.Ytpccgdkidnkppaa

set_option linter.unusedVariables false
set_option linter.unusedSimpArgs false
namespace Go.Proofs.Ytpccgdkidnkppaa
open Go Go.RowKit

/-- three rows that are owned, and a queue -/
structure RS (base M qb : Nat) (vo vv vd vq : Value) (out vals done queue : List Int) (w : World) : Prop where
  o : w.ownsRow base 3 1 vo out.length (ints out)
  v : w.ownsRow base 3 1 vv vals.length (ints vals)
  d : w.ownsRow base 3 1 vd done.length (ints done)
  q : QAt M qb vq queue w
  ov : ∀ i, vo.ownBlock = some i → vv.ownBlock ≠ some i
  od : ∀ i, vo.ownBlock = some i → vd.ownBlock ≠ some i
  vd' : ∀ i, vv.ownBlock = some i → vd.ownBlock ≠ some i
  oq : vo.ownBlock ≠ some qb
  vq' : vv.ownBlock ≠ some qb
  dq : vd.ownBlock ≠ some qb
section
variable {base M qb : Nat} {vo vv vd vq : Value} {out vals done queue : List Int} {w w' : World}
theorem RS.kept (h : RS base M qb vo vv vd vq out vals done queue w) (hk : ∀ i, i < w.heap.size → w'.heap[i]? = w.heap[i]?) (hs : w.heap.size ≤ w'.heap.size) : RS base M qb vo vv vd vq out vals done queue w' :=
  ⟨ownsRow_block h.o (fun i hi => hk i (h.o.lt i hi).2), ownsRow_block h.v (fun i hi => hk i (h.v.lt i hi).2), ownsRow_block h.d (fun i hi => hk i (h.d.lt i hi).2), h.q.kept (hk _ h.q.lt) hs, h.ov, h.od, h.vd', h.oq, h.vq', h.dq⟩
theorem RS.up (h : RS base M qb vo vv vd vq out vals done queue w) (hb : Below w.heap.size w w') : RS base M qb vo vv vd vq out vals done queue w' := h.kept (fun i hi => hb.block i hi) hb.size
theorem RS.appO (h : RS base M qb vo vv vd vq out vals done queue w) {v' : Value} {x : Int} (hg : w.grownBy w' vo.ownBlock) (ho : w'.ownsRow base 3 1 v' (out.length + 1) (ints out ++ [.int .i64 x])) (hv : ∀ i, v'.ownBlock = some i → vo.ownBlock = some i ∨ w.heap.size ≤ i) :
    RS base M qb v' vv vd vq (out ++ [x]) vals done queue w' := by
  have hk : ∀ i, i < w.heap.size → vo.ownBlock ≠ some i → w'.heap[i]? = w.heap[i]? := fun i hi hne => hg.block i hi (fun e => hne e.symm)
  refine ⟨by rw [ints_append, List.length_append, List.length_singleton]; exact ho, ownsRow_block h.v (fun i hi => hk i (h.v.lt i hi).2 (fun e => h.ov i e hi)), ownsRow_block h.d (fun i hi => hk i (h.d.lt i hi).2 (fun e => h.od i e hi)), h.q.kept (hk _ h.q.lt h.oq) hg.size,
    fun i hi e => ?_, fun i hi e => ?_, h.vd', fun e => ?_, h.vq', h.dq⟩
  · rcases hv i hi with h1 | h1
    · exact h.ov i h1 e
    · have := (h.v.lt i e).2; omega
  · rcases hv i hi with h1 | h1
    · exact h.od i h1 e
    · have := (h.d.lt i e).2; omega
  · rcases hv qb e with h1 | h1
    · exact h.oq h1
    · have := h.q.lt; omega
theorem RS.appD (h : RS base M qb vo vv vd vq out vals done queue w) {v' : Value} {x : Int} (hg : w.grownBy w' vd.ownBlock) (ho : w'.ownsRow base 3 1 v' (done.length + 1) (ints done ++ [.int .i64 x])) (hv : ∀ i, v'.ownBlock = some i → vd.ownBlock = some i ∨ w.heap.size ≤ i) :
    RS base M qb vo vv v' vq out vals (done ++ [x]) queue w' := by
  have hk : ∀ i, i < w.heap.size → vd.ownBlock ≠ some i → w'.heap[i]? = w.heap[i]? := fun i hi hne => hg.block i hi (fun e => hne e.symm)
  refine ⟨ownsRow_block h.o (fun i hi => hk i (h.o.lt i hi).2 (fun e => h.od i hi e)), ownsRow_block h.v (fun i hi => hk i (h.v.lt i hi).2 (fun e => h.vd' i hi e)), by rw [ints_append, List.length_append, List.length_singleton]; exact ho, h.q.kept (hk _ h.q.lt h.dq) hg.size,
    h.ov, fun i hi e => ?_, fun i hi e => ?_, h.oq, h.vq', fun e => ?_⟩
  · rcases hv i e with h1 | h1
    · exact h.od i hi h1
    · have := (h.o.lt i hi).2; omega
  · rcases hv i e with h1 | h1
    · exact h.vd' i hi h1
    · have := (h.v.lt i hi).2; omega
  · rcases hv qb e with h1 | h1
    · exact h.dq h1
    · have := h.q.lt; omega
theorem RS.setV {g cap : Nat} (h : RS base M qb vo (.slice (some ⟨g, 0, none⟩) vals.length cap) vd vq out vals done queue w) (i : Nat) (hi : i < vals.length) (x : Int) :
    RS base M qb vo (.slice (some ⟨g, 0, none⟩) vals.length cap) vd vq out (vals.set i x) done queue (w.setCell ⟨g, i, none⟩ (.int .i64 x)) := by
  have hk : ∀ j, j ≠ g → (w.setCell ⟨g, i, none⟩ (.int .i64 x)).heap[j]? = w.heap[j]? := fun j hj => setCell_far hj
  have h1 := ownsRow_set h.v i (.int .i64 x) hi
  rw [ints_set] at h1
  exact ⟨ownsRow_block h.o (fun j hj => hk j (fun e => h.ov j hj (by rw [e]; rfl))), by rw [List.length_set]; exact h1, ownsRow_block h.d (fun j hj => hk j (fun e => h.vd' g rfl (by rw [← e]; exact hj))), h.q.kept (hk _ (fun e => h.vq' (by rw [e]; rfl))) (by simp),
    h.ov, h.od, h.vd', h.oq, h.vq', h.dq⟩
theorem RS.newQ (h : RS base M qb vo vv vd vq out vals done queue w) {qb' : Nat} {vq' : Value} {queue' : List Int} (hk : ∀ i, i < w.heap.size → w'.heap[i]? = w.heap[i]?) (hs : w.heap.size ≤ w'.heap.size) (hq : QAt M qb' vq' queue' w') (hlo : w.heap.size ≤ qb') : RS base M qb' vo vv vd vq' out vals done queue' w' := by
  have h1 := h.kept hk hs
  exact ⟨h1.o, h1.v, h1.d, hq, h.ov, h.od, h.vd', fun e => by have := (h.o.lt _ e).2; omega, fun e => by have := (h.v.lt _ e).2; omega, fun e => by have := (h.d.lt _ e).2; omega⟩
theorem RS.sameQ (h : RS base M qb vo vv vd vq out vals done queue w) {vq' : Value} {queue' : List Int} (hq : QAt M qb vq' queue' w) : RS base M qb vo vv vd vq' out vals done queue' w := ⟨h.o, h.v, h.d, hq, h.ov, h.od, h.vd', h.oq, h.vq', h.dq⟩
end
theorem SRel.upd {S : Sh} {kn : Int → Option Int} {vals done : List Int} (h : SRel S kn vals done) {k : Nat} (hk : k < S.made.length) (hm : mkK S.made k = true) {v : Int} (hv : 0 ≤ v ∧ v ≤ 96) : SRel S (upd kn k v) (vals.set k v) (done ++ [(k : Int)]) := by
  have ha : ∀ j, atK (vals.set k v) j = if j = (k : Int) then v else atK vals j := fun j => by
    have := atK_set (xs := vals) (k := (k : Int)) (j := j) (v := v) ⟨by omega, by have := h.len; omega⟩
    rwa [Int.toNat_natCast] at this
  refine ⟨by rw [List.length_set]; exact h.len, fun x hx => ?_, fun j hj => ?_, fun j hj => ?_⟩
  · rcases List.mem_or_eq_of_mem_set hx with hx | rfl
    · exact h.rng x hx
    · exact hv
  · rw [ha]
    simp only [Go.Proofs.Ytpccgdkidnkppaa.upd]
    by_cases e : j = (k : Int)
    · subst e; simp
    · rw [if_neg e, if_neg e, h.made j hj]
      have : (done ++ [(k : Int)]).contains j = done.contains j := by
        simp only [List.contains_eq_mem, List.mem_append, List.mem_singleton, e, or_false]
      rw [this]
  · rw [ha, if_neg (fun e => by rw [e, hm] at hj; cases hj)]
    exact h.un j hj

set_option maxRecDepth 5000 in
set_option maxHeartbeats 16000000 in
theorem specOrderRestart_good (Am At Ai : Option Addr) (cm ct ci B : Nat) (w0 : World) (S : Sh) (hE : MkEnv.Good ⟨Am, cm, At, ct, Ai, ci, B, w0⟩ S) (hnod : ∀ T ∈ S.tks.map Tk.enc, nodes T ≤ 1000000000) (hsafe : safeP S.made (S.tks.map Tk.enc) = true) (Ak : Option Addr) (ck : Nat) (keys : List Int) (w : World) (hb : Below B w0 w) (hB : B ≤ w.heap.size) (hk : keysOk S.made.length keys = true) (hx : IntsAt B w0 Ak keys) (hm : keys.length ≤ 1000)
    (n0 : Nat) (fin : RSt) (hr : RRun S n0 ⟨fun _ => none, [], keys⟩ fin) (hfq : fin.queue = []) (hfl : fin.out.length ≤ 1000) :
    Calls Try.prog 31 #[.agg #[.slice Am S.made.length cm, .slice At S.tks.length ct], .slice Ai S.inputs.length ci, .slice Ak keys.length ck] w fun e w' =>
      GivesOwn w.heap.size (fin.out, true) e w w' := by
  have hok2 : takesOk S.made.length S.inputs = true := by simp [takesOk, hE.ok.ins, vals_iff.2 hE.ok.vals]
  have hin : inputsOk S.made (S.tks.map Tk.enc) S.inputs = true := by rw [inputsOk, hE.ok.sheet, hok2]; rfl
  have hten := hE.ok.ten
  have hc1 := fun w1 (hw : Below w.heap.size w w1) => l3Inputs_calls Am At Ai cm ct ci S.made (S.tks.map Tk.enc) S.inputs B w0 w1 (below_up' hb hB hw) (Nat.le_trans hB hw.size) hE.sheet hnod (Nat.le_trans hE.li hE.mi) hE.ins
  rw [hin] at hc1
  simp only [List.length_map] at hc1
  have hc2 := fun w1 (hw : Below w.heap.size w w1) => l4Keys_calls Am At Ak cm ct ck S.made (S.tks.map Tk.enc) keys B w0 w1 (below_up' hb hB hw) (Nat.le_trans hB hw.size) hE.sheet hnod (by omega) (by unfold maxLen; omega) hx
  rw [hk, hE.ok.sheet] at hc2
  simp only [List.length_map] at hc2
  have hc3 := fun w1 (hw : Below w.heap.size w w1) => specSheetSafe_calls Am At cm ct S.made (S.tks.map Tk.enc) B w0 w1 (below_up' hb hB hw) (Nat.le_trans hB hw.size) hE.sheet hnod
  rw [hsafe] at hc3
  simp only [List.length_map] at hc3
  have hc5 := fun (kn : Int → Option Int) (vals done : List Int) (hR : SRel S kn vals done) w1 (hw : Below w.heap.size w w1) (Av Ad : Option Addr) (cv cd : Nat) (hv : IntsAt w1.heap.size w1 Av vals) (hd : IntsAt w1.heap.size w1 Ad done) (hdl : done.length ≤ 1000) (q : Nat) (hq : q < S.tks.length) =>
    l4Try_calls S hE.ok Am At Av Ad cm ct cv cd kn vals done hR B w0 w1 (below_up' hb hB hw) (Nat.le_trans hB hw.size) hE.sheet hv hd hdl q hq
  have hmade : BoolsAt w.heap.size w Am S.made := hE.sheet.made.up hb hB
  have hinp : IntsAt w.heap.size w Ai S.inputs := hE.ins.up hb hB
  have hkey : IntsAt w.heap.size w Ak keys := hx.up hb hB
  have hml : S.made.length ≤ cm := hE.sheet.lm
  have hmmx : cm ≤ maxLen := hE.sheet.mm
  have hlen := hE.ok.len
  have hS := hE.ok
  unfold maxLen at hmmx
  have hrg := keysOk_iff.1 hk
  have hil : S.inputs.length ≤ 10 := by rw [hE.ok.ins]; exact hten
  have hn0 := (rrun_len hr hfq).2
  simp only [List.length_nil] at hn0
  have hn1 : n0 ≤ 3000 := by omega
  clear hn0
  replace hc1 := Lib.hid hc1
  replace hc2 := Lib.hid hc2
  replace hc3 := Lib.hid hc3
  replace hc5 := Lib.hid hc5
  replace hr := Lib.hid hr
  replace hfq := Lib.hid hfq
  replace hmade := Lib.hid hmade
  replace hinp := Lib.hid hinp
  replace hkey := Lib.hid hkey
  replace hrg := Lib.hid hrg
  replace hlen := Lib.hid hlen
  replace hS := Lib.hid hS
  clear hok2 hin hk hb hx hE hsafe hnod
  go_enter Try.func31, Try.ntmps31
  go_wp2_with fail
  refine (hc1.out _ (below_al (below_al (Below.refl _ _) _) _)).mono ?_
  rintro e w1 ⟨rfl, h1⟩
  have x0 : w1.cell? ⟨w.heap.size, 0, none⟩ = some (.slice Am S.made.length cm) := (h1.cell (p := ⟨w.heap.size, 0, none⟩) (by simp; omega)).trans (by simp)
  have x1 : w1.cell? ⟨w.heap.size, 1, none⟩ = some (.slice At S.tks.length ct) := (h1.cell (p := ⟨w.heap.size, 1, none⟩) (by simp; omega)).trans (by simp)
  have hbx1 := (h1.block w.heap.size (by simp; omega)).trans ((heap_old (by simp)).trans (heap_new rfl))
  have ho1 : w1.ownsRow (w.heap.size + 1) 3 1 (.slice (some ⟨w.heap.size + 1, 0, none⟩) 0 0) 0 [] := ownsRow_block (by simpa using World.ownsRow_made (base := w.heap.size + 1) (w.alloc (.cells #[.slice Am S.made.length cm, .slice At S.tks.length ct] 31 (0, 0))) #[] 0 (by simp) (by simp [maxLen]) rfl) (fun i hi => h1.block i (by cases hi; simp))
  have b1 : Below w.heap.size w w1 := (below_al (below_al (Below.refl _ _) _) _).trans (h1.mono (by simp; omega))
  have s1 : w.heap.size + 1 < w1.heap.size := by have := h1.size; simp at this; omega
  have s1' : w.heap.size < w1.heap.size := by omega
  replace b1 := Lib.hid b1
  replace hbx1 := Lib.hid hbx1
  replace ho1 := Lib.hid ho1
  clear h1 hc1
  go_wp2_with fail
  refine (hc2.out _ b1.out).mono ?_
  rintro e w2 ⟨rfl, h2⟩
  have y0 := kept_cell h2 s1' x0
  have y1 := kept_cell h2 s1' x1
  have hbx2 := (h2.block w.heap.size s1').trans hbx1.out
  have ho2 := ownsRow_block ho1.out (fun i hi => h2.block i (ho1.out.lt i hi).2)
  have b2 := below_up b1.out h2
  have s2 : w.heap.size < w2.heap.size := by have := h2.size; omega
  replace b2 := Lib.hid b2
  replace hbx2 := Lib.hid hbx2
  replace ho2 := Lib.hid ho2
  clear h2 x0 x1 s1 hbx1 hc2 ho1
  go_wp2_with fail
  refine (hc3.out _ b2.out).mono ?_
  rintro e w3 ⟨rfl, h3⟩
  have hbx3 := (h3.block w.heap.size s2).trans hbx2.out
  have ho3 := ownsRow_block ho2.out (fun i hi => h3.block i (ho2.out.lt i hi).2)
  have b3 := below_up b2.out h3
  have s3 : w.heap.size < w3.heap.size := by have := h3.size; omega
  replace b3 := Lib.hid b3
  replace hbx3 := Lib.hid hbx3
  replace ho3 := Lib.hid ho3
  clear h3 y0 y1 s2 hbx2 hc3 ho2
  go_wp2_with (at_builtin; go_loud (with_reducible refine wpList_appI (by rfl) (.tmp 33) (.tmp 34) (by rfl) intTy (base := w.heap.size + 1) (v := .slice (some ⟨w3.heap.size, 0, none⟩) 0 0) (n := 0) (xs := []) (ys := S.inputs) (by with_unfolding_all rfl) (World.ownsRow_made (base := w.heap.size + 1) w3 #[] 0 (by omega) (by simp [maxLen]) rfl) (by with_unfolding_all rfl) hinp.out (below_al' b3.out _ b3.out.size) (Nat.le_trans b3.out.size (by simp)) ?_ ?_ (by simp; omega) ?_))
  · unfold maxLen; omega
  · omega
  intro v4 w4 hown4 hgrow4 hat4
  have hz4 := hgrow4.size
  simp only [World.size_alloc] at hz4
  have hk4 : ∀ i, i < w3.heap.size → w4.heap[i]? = w3.heap[i]? := fun i hi => (hgrow4.block i (by simp; omega) (fun e => by simp [Value.ownBlock] at e; omega)).trans (heap_old hi)
  have hown4' : w4.ownsRow (w.heap.size + 1) 3 1 v4 S.inputs.length (ints S.inputs) := by have := hown4; simpa using this
  have b4 : Below w.heap.size w w4 := b3.out.trans ⟨hgrow4.os, hgrow4.tape, hgrow4.output, by omega, fun i hi => hk4 i (by omega)⟩
  have hbx4 := (hk4 _ (by omega)).trans hbx3.out
  have ho4 := ownsRow_block ho3.out (fun i hi => hk4 i (ho3.out.lt i hi).2)
  have hv4 : ∀ i, v4.ownBlock = some i → w3.heap.size ≤ i := fun i hi => by
    rcases hat4 with h | h
    · rw [h] at hi; simp [Value.ownBlock] at hi; omega
    · rw [h] at hi; simp at hi; omega
  have hb4 := b4.size
  replace b4 := Lib.hid b4
  replace hbx4 := Lib.hid hbx4
  replace ho4 := Lib.hid ho4
  replace hown4' := Lib.hid hown4'
  replace hv4 := Lib.hid hv4
  clear hown4 hgrow4 hat4 hk4 b3 hbx3
  go_wp2_with (at_builtin; go_loud (with_reducible refine wpList_appI (by rfl) (.tmp 37) (.tmp 38) (by rfl) intTy (base := w.heap.size + 1) (v := .slice (some ⟨w4.heap.size + 1, 0, none⟩) 0 0) (n := 0) (xs := []) (ys := keys) (by with_unfolding_all rfl) (by simpa using World.ownsRow_made (base := w.heap.size + 1) (w4.alloc (.cells #[] 3 (0, 0))) #[] 0 (by simp; omega) (by simp [maxLen]) rfl) (by with_unfolding_all rfl) hkey.out (below_al' (below_al' b4.out _ hb4) _ (by simp; omega)) (by simp; omega) ?_ ?_ (by simp; omega) ?_))
  · unfold maxLen; omega
  · omega
  intro v5 w5 hown5 hgrow5 hat5
  have hz5 := hgrow5.size
  simp only [World.size_alloc] at hz5
  have hk5 : ∀ i, i < w4.heap.size + 1 → w5.heap[i]? = (w4.alloc (.cells #[] 3 (0, 0))).heap[i]? := fun i hi => (hgrow5.block i (by simp; omega) (fun e => by simp [Value.ownBlock] at e; omega)).trans (heap_old (by simp; omega))
  have hk5' : ∀ i, i < w4.heap.size → w5.heap[i]? = w4.heap[i]? := fun i hi => (hk5 i (by omega)).trans (heap_old hi)
  have hown5' : w5.ownsRow (w.heap.size + 1) 3 1 v5 keys.length (ints keys) := by have := hown5; simpa using this
  have hv5 : ∀ i, v5.ownBlock = some i → w4.heap.size + 1 ≤ i := fun i hi => by
    rcases hat5 with h | h
    · rw [h] at hi; simp [Value.ownBlock] at hi; omega
    · rw [h] at hi; simp at hi; omega
  obtain ⟨qb, hQ5, hqo⟩ := QAt.own hown5' (M := w.heap.size) (b := w5.heap.size - 1) (by omega) (by omega) (by omega)
  have b5 : Below w.heap.size w w5 := b4.out.trans ⟨hgrow5.os, hgrow5.tape, hgrow5.output, by omega, fun i hi => hk5' i (by omega)⟩
  have hbx5 := (hk5' _ (by omega)).trans hbx4.out
  have hd5 : w5.ownsRow (w.heap.size + 1) 3 1 (.slice (some ⟨w4.heap.size, 0, none⟩) 0 0) 0 [] := ownsRow_block (World.ownsRow_made (base := w.heap.size + 1) w4 #[] 0 (by omega) (by simp [maxLen]) rfl) (fun i hi => hk5 i (by simp [Value.ownBlock] at hi; omega))
  have hv4l := fun i hi => (hown4'.out.lt i hi).2
  have hqlo : w4.heap.size + 1 ≤ qb := by
    rcases hqo with h | ⟨rfl, h⟩
    · exact hv5 qb h
    · omega
  have hRS : RS (w.heap.size + 1) w.heap.size qb (.slice (some ⟨w.heap.size + 1, 0, none⟩) 0 0) v4 (.slice (some ⟨w4.heap.size, 0, none⟩) 0 0) v5 [] S.inputs [] keys w5 := by
    refine ⟨ownsRow_block ho4.out (fun i hi => hk5' i (ho4.out.lt i hi).2), ownsRow_block hown4'.out (fun i hi => hk5' i (hown4'.out.lt i hi).2), hd5, hQ5, fun i hi e => ?_, fun i hi e => ?_, fun i hi e => ?_, fun e => ?_, fun e => ?_, fun e => ?_⟩
    · have h3 := (ho3.out.lt (w.heap.size + 1) rfl).2; simp [Value.ownBlock] at hi; have := hv4.out i e; omega
    · simp [Value.ownBlock] at hi e; omega
    · simp [Value.ownBlock] at e; have := hv4l i hi; omega
    · simp [Value.ownBlock] at e; omega
    · have := hv4l qb e; omega
    · simp [Value.ownBlock] at e; omega
  have s5 : w.heap.size < w5.heap.size := by omega
  replace b5 := Lib.hid b5
  replace hbx5 := Lib.hid hbx5
  replace hRS := Lib.hid hRS
  clear hown5 hgrow5 hat5 hk5 hk5' b4 hbx4 hown4' hv4 ho4 ho3 hd5 hQ5 hqo hown5' hv5 hv4l
  go_wp2_with fail
  go_loopg [8, 10, 11] n0 (fun gk o d q wr => ∃ (st : RSt) (vals done : List Int) (qb : Nat), gk ≤ n0 ∧ Hid (RRun S gk st fin) ∧ Hid (KnOk S st.kn) ∧ Hid (SRel S st.kn vals done) ∧ done.length ≤ st.out.length ∧
    Hid (RS (w.heap.size + 1) w.heap.size qb o v4 d q st.out vals done st.queue wr) ∧ Hid (∀ k ∈ st.queue, 0 ≤ k ∧ k < S.made.length) ∧
    Hid (Below w.heap.size w wr) ∧ w.heap.size < wr.heap.size ∧ Hid (wr.heap[w.heap.size]? = some (.cells #[.slice Am S.made.length cm, .slice At S.tks.length ct] 31 (0, 0))))
  case atStart =>
    refine ⟨⟨fun _ => none, [], keys⟩, S.inputs, [], qb, Nat.le_refl _, hr, Lib.hid ⟨fun k v h => (by cases h), fun k v h => (by cases h)⟩, Lib.hid ⟨hS.out.ins, hS.out.vals, fun k _ => by simp, fun k _ => rfl⟩, Nat.le_refl _, hRS, hrg, b5, s5, hbx5⟩
  case round =>
    obtain ⟨⟨kn, out, queue⟩, vals, done, qb, hgn, hr, hkn, hsr, hdo, hRS, hqr, hw, hsz, hbx⟩ := hrel
    dsimp only at hr hkn hsr hRS hqr hdo
    have x0 : wr.cell? ⟨w.heap.size, 0, none⟩ = some (.slice Am S.made.length cm) := cellm hbx.out 0
    have x1 : wr.cell? ⟨w.heap.size, 1, none⟩ = some (.slice At S.tks.length ct) := cellm hbx.out 1
    cases queue with
    | nil =>
      have hgk : (⟨kn, out, []⟩ : RSt) = fin := by
        cases gk with
        | zero => exact hr.out
        | succ n => exact (hr.out.1 rfl).elim
      have hfo : fin.out = out := by rw [← hgk]
      obtain ⟨Aq, cq, rfl, hql1, hql2⟩ := hRS.out.q.val
      have hof := own_low hRS.out.o (show w.heap.size ≤ w.heap.size + 1 by omega)
      replace hgk := Lib.hid hgk
      replace hfo := Lib.hid hfo
      replace hof := Lib.hid hof
      simp only [List.length_nil] at hql1 ⊢
      go_wp2_with fail
      go_ret2
      rw [hfo.out]
      exact ⟨_, rfl, hof.out, hw.out⟩
    | cons k q =>
      obtain ⟨n, rfl⟩ : ∃ n, gk = n + 1 := by
        cases gk with
        | zero => have := hr.out; rw [RRun] at this; have h2 := hfq.out; rw [← this] at h2; cases h2
        | succ n => exact ⟨n, rfl⟩
      have hr2 := hr.out.2
      have hkr := hqr.out k (List.mem_cons_self ..)
      obtain ⟨Aq, cq, e1, hql1, hql2⟩ := hRS.out.q.val
      obtain ⟨oq, cq', e2, hck⟩ := hRS.out.q.cell 0 (by simp)
      subst e1
      simp only [List.length_cons, Value.slice.injEq, true_and] at e2
      obtain ⟨rfl, rfl⟩ := e2
      have hQ := hRS.out.q
      simp only [List.length_cons, Nat.add_zero, List.getElem_cons_zero] at hql1 hck hQ ⊢
      obtain ⟨kq, rfl⟩ := Int.eq_ofNat_of_zero_le hkr.1
      have hkq : kq < S.made.length := by omega
      have hqlen : q.length + 1 ≤ 3001 := by have := (rrun_len hr.out hfq.out).1; simp at this; omega
      obtain ⟨o2, hsl1, hsl2, ho2⟩ := slice_tail qb oq q.length cq (by omega)
      have hT := hRS.out.sameQ (hQ.tail (A := some ⟨qb, o2, none⟩) (fun hne => by
        have : q.length ≠ 0 := fun h => hne (List.eq_nil_of_length_eq_zero h)
        rw [ho2 (by omega)]) (by omega) hql2)
      replace hT := Lib.hid hT
      replace ho2 := Lib.hid ho2
      unfold maxLen at hql2
      have hrs : ∀ (h : kn kq ≠ none ∨ mkK S.made kq = false), rstep S ⟨kn, out, (kq : Int) :: q⟩ = ⟨kn, out, q⟩ := fun h => by
        have : ((kn kq).isSome || !mkK S.made kq) = true := by
          rcases h with h | h
          · cases e : kn kq with
            | none => exact (h e).elim
            | some v => rfl
          · rw [h]; simp
        simp [rstep, this]
      have hmkk : mkK S.made kq = S.made[kq] := by unfold mkK; rw [if_neg (by omega)]; exact getD_at _ _
      obtain ⟨b3, o3, rfl, hb3, hc3⟩ := hmade.out.at hw.out hw.out.size kq hkq
      have hqr2 : ∀ k ∈ q, 0 ≤ k ∧ k < S.made.length := fun k hk => hqr.out k (List.mem_cons_of_mem _ hk)
      have hgn2 : n ≤ n0 := by omega
      have hol : out.length ≤ 1000 := by have := rrun_out hr.out; simp at this; omega
      obtain ⟨Ad, cd, ed, hd1, hd2, hdi⟩ := ownsRow_ints hRS.out.d
      obtain ⟨Av, cv, ev, hv1, hv2, hvi⟩ := ownsRow_ints hRS.out.v
      obtain ⟨Ao, co, eo, ho1, ho2', -⟩ := ownsRow_ints hRS.out.o
      replace hqr2 := Lib.hid hqr2
      replace hrs := Lib.hid hrs
      replace hmkk := Lib.hid hmkk
      replace hr2 := Lib.hid hr2
      clear hr hQ
      subst ed ev eo
      have hdc : done.length ≤ 1000 := by omega
      have hha := l2Has_calls Ad cd done kq wr.heap.size wr wr (Below.refl _ _) (Nat.le_refl _) (by unfold maxLen; omega) hdi
      cases hmd : S.made[kq] with
      | false =>
        rw [hmd] at hc3
        have hr3 := hr2.out
        rw [hrs.out (.inr (by rw [hmkk.out, hmd]))] at hr3
        replace hr3 := Lib.hid hr3
        replace hmd := Lib.hid hmd
        clear hha
        go_wp2_with fail
        go_roundg n
        case rel => exact ⟨⟨kn, out, q⟩, vals, done, qb, hgn2, hr3, hkn, hsr, hdo, hT, hqr2, hw, hsz, hbx⟩
        case measure => omega
      | true =>
        rw [hmd] at hc3
        have hmk1 : mkK S.made kq = true := by rw [hmkk.out, hmd]
        have hknv := hsr.out.made kq hmk1
        cases hcn : done.contains (kq : Int) with
        | true =>
          rw [hcn] at hha
          have hr3 := hr2.out
          rw [hrs.out (.inl (by rw [hknv, hcn]; simp))] at hr3
          replace hr3 := Lib.hid hr3
          replace hmd := Lib.hid hmd
          replace hmk1 := Lib.hid hmk1
          replace hknv := Lib.hid hknv
          replace hcn := Lib.hid hcn
          replace hha := Lib.hid hha
          go_wp2_with fail
          refine hha.out.mono ?_
          rintro e wz ⟨rfl, rfl⟩
          go_wp2_with fail
          go_roundg n
          case rel => exact ⟨⟨kn, out, q⟩, vals, done, qb, hgn2, hr3, hkn, hsr, hdo, hT, hqr2, hw, hsz, hbx⟩
          case measure => omega
        | false =>
          rw [hcn] at hha
          have hkk : kn kq = none := by rw [hknv, hcn]; rfl
          have hrs2 : rstep S ⟨kn, out, (kq : Int) :: q⟩ = if (tryR S kn kq).1.2 then ⟨upd kn kq (tryR S kn kq).1.1, out ++ [(kq : Int)], q⟩ else ⟨kn, out ++ [(kq : Int)], (tryR S kn kq).2 :: (kq : Int) :: q⟩ := by
            simp [rstep, hkk, hmk1]
          have hr3 := hr2.out
          rw [hrs2] at hr3
          have htk := fun w1 hw Av Ad cv cd hv hd => hc5.out kn vals done hsr.out w1 hw Av Ad cv cd hv hd hdc kq (by have := hlen.out; omega)
          have htr := tryR_range S hS.out kn hkn.out.val kq
          generalize hRR : tryR S kn kq = R at *
          replace hRR := Lib.hid hRR
          replace hrs2 := Lib.hid hrs2
          replace htk := Lib.hid htk
          replace htr := Lib.hid htr
          replace hr3 := Lib.hid hr3
          replace hkk := Lib.hid hkk
          replace hmd := Lib.hid hmd
          replace hmk1 := Lib.hid hmk1
          replace hknv := Lib.hid hknv
          replace hcn := Lib.hid hcn
          replace hha := Lib.hid hha
          go_wp2_with fail
          refine hha.out.mono ?_
          rintro e wz ⟨rfl, rfl⟩
          go_wp2_with (at_builtin; go_loud (with_reducible refine wpList_app1 (by rfl) (.tmp 59) (.tmp 61) 26 (by rfl) intTy (w.heap.size + 1) (.slice Ao out.length co) out.length (ints out) (by with_unfolding_all rfl) (hT.out.o.alloc _) wr.heap.size 1 [.int .i64 kq] (by with_unfolding_all rfl) (by with_unfolding_all rfl) ⟨_, _, heap_alloc_new wr _, rfl⟩ (one_int _ _) ?_ ?_ ?_ ?_))
          · unfold maxLen; omega
          · omega
          · simp; omega
          intro g5 cap5 w5 hown5 hgrow5 hat5
          have hT5 := (hT.out.up (below_al (Below.refl _ _) _)).appO hgrow5 hown5 (fun i hi => by simp only [Value.ownBlock, Option.some.injEq] at hi; subst hi; exact hat5.imp id (fun e => by rw [e]; simp))
          have hbo : (Value.slice Ao out.length co).ownBlock ≠ some w.heap.size := fun e => by have := (hT.out.o.lt _ e).1; omega
          have hbx5 := (hgrow5.block w.heap.size (by simp; omega) (fun e => hbo e.symm)).trans ((heap_old hsz).trans hbx.out)
          have hw5 : Below w.heap.size w w5 := (below_al' hw.out _ hw.out.size).grown hgrow5 (by have := hw.out.size; simp; omega) (fun k hk => by have := (hT.out.o.lt k hk).1; omega)
          have y0 : w5.cell? ⟨w.heap.size, 0, none⟩ = some (.slice (some ⟨b3, o3, none⟩) S.made.length cm) := cellm hbx5 0
          have y1 : w5.cell? ⟨w.heap.size, 1, none⟩ = some (.slice At S.tks.length ct) := cellm hbx5 1
          have htk5 := htk.out w5 hw5 Av Ad cv cd (ownsRow_ints_of hT5.v) (ownsRow_ints_of hT5.d)
          have hz5 := hgrow5.size
          simp only [World.size_alloc] at hz5
          have s5 : w.heap.size < w5.heap.size := by omega
          replace hT5 := Lib.hid hT5
          replace hbx5 := Lib.hid hbx5
          replace hw5 := Lib.hid hw5
          replace htk5 := Lib.hid htk5
          clear hown5 hgrow5 hat5 hbo hT hbx hw hRS x0 x1 hc3 htk hdi hvi hck hha
          go_wp2_with fail
          refine htk5.out.mono ?_
          rintro e w6 ⟨rfl, h6⟩
          have hT6 := hT5.out.up h6
          have hbx6 := (h6.block _ s5).trans hbx5.out
          have hw6 := hw5.out.trans (h6.mono hw5.out.size)
          have s6 : w.heap.size < w6.heap.size := by have := h6.size; omega
          have htr := htr.out
          obtain ⟨⟨v, ok⟩, lk⟩ := R
          dsimp only at htr hr3 ⊢
          cases ok with
          | true =>
            have hr4 := hr3.out
            rw [if_pos rfl] at hr4
            have hvl := hsr.out.len
            obtain ⟨gv, rfl⟩ : ∃ gv, Av = some ⟨gv, 0, none⟩ := by
              rcases hT6.v.2 with ⟨h, h0⟩ | ⟨g', _, _, h, _⟩
              · omega
              · simp at h; exact ⟨g', h.1⟩
            have hgv := hT6.v.lt gv rfl
            have hkv : kq < vals.length := by omega
            have hcv := (row_cells hT6.v kq hkv).1
            have hfv := (row_cells hT6.v kq hkv).2
            have hT7 := hT6.setV kq hkv v
            have hbx7 := (setCell_far (w := w6) (m := gv) (j := kq) (v := .int .i64 v) (show w.heap.size ≠ gv by omega)).trans hbx6
            have hw7 : Below w.heap.size w (w6.setCell ⟨gv, kq, none⟩ (.int .i64 v)) := hw6.setCell (p := ⟨gv, kq, none⟩) (by simp; omega) _
            have hsr7 := hsr.out.upd hkq hmk1.out ⟨htr.1, htr.2.1⟩
            have hkn7 : KnOk S (upd kn kq v) := ⟨fun j u hu => by
              simp only [upd] at hu
              split at hu
              · cases hu; exact ⟨htr.1, htr.2.1⟩
              · exact hkn.out.val j u hu, fun j u hu => by
              simp only [upd] at hu
              split at hu
              · rename_i e; rw [e]; omega
              · exact hkn.out.key j u hu⟩
            have hdl9 : (done ++ [(kq : Int)]).length ≤ (out ++ [(kq : Int)]).length := by simp; omega
            have s7 : w.heap.size < (w6.setCell ⟨gv, kq, none⟩ (.int .i64 v)).heap.size := by simpa using s6
            replace hT7 := Lib.hid hT7
            replace hbx7 := Lib.hid hbx7
            replace hw7 := Lib.hid hw7
            replace hr4 := Lib.hid hr4
            replace htr := Lib.hid htr
            replace hvl := Lib.hid hvl
            replace hsr7 := Lib.hid hsr7
            replace hkn7 := Lib.hid hkn7
            replace hdl9 := Lib.hid hdl9
            clear hT5 hbx5 hw5 h6 y0 y1 hr3 htk5 hT6 hbx6 hw6
            go_wp2_with (at_builtin; go_loud (with_reducible refine wpList_app1 (by rfl) (.tmp 77) (.tmp 79) 26 (by rfl) intTy (w.heap.size + 1) (.slice Ad done.length cd) done.length (ints done) (by with_unfolding_all rfl) (hT7.out.d.alloc _) w6.heap.size 1 [.int .i64 kq] (by with_unfolding_all rfl) (by with_unfolding_all rfl) ⟨_, _, heap_new (by simp), rfl⟩ (one_int _ _) ?_ ?_ ?_ ?_))
            · unfold maxLen; omega
            · omega
            · first | omega | (simp; omega)
            intro g8 cap8 w8 hown8 hgrow8 hat8
            have hT8 := (hT7.out.up (below_al (Below.refl _ _) _)).appD hgrow8 hown8 (fun i hi => by simp only [Value.ownBlock, Option.some.injEq] at hi; subst hi; exact hat8.imp id (fun e => by rw [e]; simp))
            have hbo8 : (Value.slice Ad done.length cd).ownBlock ≠ some w.heap.size := fun e => by have := (hT7.out.d.lt _ e).1; omega
            have hbx8 := (hgrow8.block w.heap.size (by simp; omega) (fun e => hbo8 e.symm)).trans ((heap_old s7).trans hbx7.out)
            have hw8 : Below w.heap.size w w8 := (below_al' hw7.out _ hw7.out.size).grown hgrow8 (by have := hw7.out.size; simp at this; simp; omega) (fun k hk => by have := (hT7.out.d.lt k hk).1; omega)
            have s8 : w.heap.size < w8.heap.size := by have := hgrow8.size; simp at this; omega
            replace hT8 := Lib.hid hT8
            replace hbx8 := Lib.hid hbx8
            replace hw8 := Lib.hid hw8
            clear hown8 hgrow8 hat8 hbo8 hT7 hbx7 hw7 hcv hfv
            go_wp2_with fail
            go_roundg n
            case rel => exact ⟨⟨upd kn kq v, out ++ [(kq : Int)], q⟩, vals.set kq v, done ++ [(kq : Int)], qb, hgn2, hr4, hkn7, hsr7, hdl9.out, hT8, hqr2, hw8, s8, hbx8⟩
            case measure => omega
          | false =>
            have hr4 := hr3.out
            rw [if_neg (by simp)] at hr4
            have hqi := hT6.q.ints
            have hlr := htr.2.2 rfl
            have hz8 : w6.heap.size < (w6.alloc (.cells #[.int .i64 lk, .int .i64 kq] 3 (0, 0))).heap.size := by simp
            have hown8 : (w6.alloc (.cells #[.int .i64 lk, .int .i64 kq] 3 (0, 0))).ownsRow w6.heap.size 3 1 (.slice (some ⟨w6.heap.size, 0, none⟩) 2 2) 2 (ints [lk, (kq : Int)]) := by
              exact RowBlk.owns (f := fun n : Int => Value.int .i64 n) (xs := [lk, (kq : Int)]) (heap_alloc_new w6 _) (Nat.le_refl _) (by simp [maxLen])
            have hdo9 : done.length ≤ (out ++ [(kq : Int)]).length := by simp; omega
            replace hT6 := Lib.hid hT6
            replace hbx6 := Lib.hid hbx6
            replace hw6 := Lib.hid hw6
            replace hr4 := Lib.hid hr4
            replace htr := Lib.hid htr
            replace hqi := Lib.hid hqi
            replace hown8 := Lib.hid hown8
            replace hdo9 := Lib.hid hdo9
            clear hT5 hbx5 hw5 h6 y0 y1 hr3 htk5
            go_wp2_with (at_builtin; go_loud (with_reducible refine wpList_appI (by rfl) (.tmp 83) (.tmp 84) (by rfl) intTy (base := w6.heap.size) (v := .slice (some ⟨w6.heap.size, 0, none⟩) 2 2) (n := 2) (xs := ints [lk, (kq : Int)]) (ys := q) (by with_unfolding_all rfl) hown8.out (by with_unfolding_all rfl) hqi.out (below_al (Below.refl _ _) _) (Nat.le_of_lt hz8) ?_ ?_ (Nat.le_of_lt hz8) ?_))
            · unfold maxLen; omega
            · omega
            intro v9 w9 hown9 hgrow9 hat9
            have hz9 := hgrow9.size
            simp only [World.size_alloc] at hz9
            have hk9 : ∀ i, i < w6.heap.size → w9.heap[i]? = w6.heap[i]? := fun i hi => (hgrow9.block i (by simp; omega) (fun e => by simp [Value.ownBlock] at e; omega)).trans (heap_old hi)
            have hown9' : w9.ownsRow w6.heap.size 3 1 v9 (lk :: (kq : Int) :: q).length (ints (lk :: (kq : Int) :: q)) := by
              have e1 : (lk :: (kq : Int) :: q).length = 2 + q.length := by simp; omega
              rw [e1]; exact hown9
            obtain ⟨qb9, hQ9, hq9⟩ := QAt.own hown9' (M := w.heap.size) (b := w9.heap.size - 1) s6 (by omega) (by omega)
            have hqlo : w6.heap.size ≤ qb9 := by
              rcases hq9 with h | ⟨_, h⟩
              · exact (hown9'.lt qb9 h).1
              · cases h
            have hT9 := hT6.out.newQ hk9 (by omega) hQ9 hqlo
            have hbx9 := (hk9 _ s6).trans hbx6.out
            have hw9 : Below w.heap.size w w9 := hw6.out.trans ⟨hgrow9.os, hgrow9.tape, hgrow9.output, by omega, fun i hi => hk9 i (by omega)⟩
            have hs9 : w.heap.size < w9.heap.size := by omega
            have hqr9 : ∀ k ∈ lk :: (kq : Int) :: q, 0 ≤ k ∧ k < S.made.length := fun k hk => by
              rcases List.mem_cons.1 hk with rfl | hk
              · exact hlr
              · rcases List.mem_cons.1 hk with rfl | hk
                · omega
                · exact hqr2.out k hk
            replace hT9 := Lib.hid hT9
            replace hbx9 := Lib.hid hbx9
            replace hw9 := Lib.hid hw9
            replace hqr9 := Lib.hid hqr9
            clear hown9 hgrow9 hat9 hown9' hk9 hq9 hT6 hbx6 hw6 hQ9
            go_wp2_with fail
            go_roundg n
            case rel => exact ⟨⟨kn, out ++ [(kq : Int)], lk :: (kq : Int) :: q⟩, vals, done, qb9, hgn2, hr4, hkn, hsr, hdo9.out, hT9, hqr9, hw9, hs9, hbx9⟩
            case measure => omega
end Go.Proofs.Ytpccgdkidnkppaa
