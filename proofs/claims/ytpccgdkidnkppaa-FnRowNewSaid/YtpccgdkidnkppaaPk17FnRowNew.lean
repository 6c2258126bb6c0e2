import Derived.Deep.RegionHeld3
import Derived.Lib.AppendZerosOnto
import Derived.Test.YtpccgdkidnkppaaPk6FnRowNew
import Derived.Test.YtpccgdkidnkppaaPk10FnRowNew
import Derived.Test.YtpccgdkidnkppaaPk14FnRowNew
import Derived.Test.YtpccgdkidnkppaaPk16FnRowNew
set_option linter.unusedVariables false
set_option linter.unusedSimpArgs false
namespace Go.Proofs.Ytpccgdkidnkppaa
open Go Go.RowKit

theorem allL_ok {S : Sh} (hS : S.Ok) : ∀ (ks : List Int) (st : MkSt) (out : List Int), Inv S S.made.length st → st.open_ = [] → KnE S st.known → (∀ k ∈ ks, (specKeyP S k).2 = true) → allL S ks st out = (out ++ ks.map (fun k => (specKeyP S k).1), true) := by
  intro ks
  induction ks with
  | nil => intro st out _ _ _ _; simp [allL]
  | cons k ks ih =>
    intro st out hi ho hK h
    rw [allL]
    have hs := keyP_spec hS S.made.length st [] k hi hK
    rw [ho] at hs
    obtain ⟨⟨h1, h2, h3⟩, h4⟩ := hs
    have hv := keyP_inv hS S.made.length st k hi
    have e : (keyP S S.made.length st k).1 = specKeyP S k := h1
    have hok : (keyP S S.made.length st k).1.2 = true := by rw [e]; exact h k (List.mem_cons_self ..)
    obtain ⟨h21, h22, h23⟩ := h2 hok
    rw [if_pos hok, ih _ _ hv.1 ((hv.2.1 hok).trans ho) h22 (fun j hj => h j (List.mem_cons_of_mem _ hj)), e]
    simp
/-- the values of an order, from nothing -/
def newP (made : List Bool) (tks : List Tk) (x : Ordr) : List Int := x.2.map fun k => (specKeyP ⟨made, tks, x.1⟩ k).1
theorem newP_all {made : List Bool} {tks : List Tk} {x : Ordr} (hS : Sh.Ok ⟨made, tks, x.1⟩) (h : safeP made (tks.map Tk.enc) = true) : allL ⟨made, tks, x.1⟩ x.2 st0 [] = (newP made tks x, true) := by
  rw [allL_ok hS x.2 st0 [] (inv0 _) rfl (knE0 _) (fun k _ => safe_all hS h k)]; rfl
structure RowFit (made : List Bool) (tks : List Tk) (l : List Ordr) : Prop where
  safe : safeP made (tks.map Tk.enc) = true
  six : l.length ≤ 6
  ok : ∀ x ∈ l, Sh.Ok ⟨made, tks, x.1⟩
  keys : ∀ x ∈ l, keysOk made.length x.2 = true
theorem rowOk_fit {made : List Bool} {tasks : List Task} {l : List Ordr} (h : rowOkP made tasks l = true) : ∃ tks, tasks = tks.map Tk.enc ∧ RowFit made tks l := by
  unfold rowOkP at h
  simp only [Bool.and_eq_true, decide_eq_true_eq, List.all_eq_true, fitO] at h
  obtain ⟨⟨h1, h2⟩, h3⟩ := h
  have hok : sheetOk made tasks = true := by have := h1; unfold safeP at this; rw [Bool.and_eq_true] at this; exact this.1
  obtain ⟨tks, rfl, -⟩ := ok_sh (inputs := List.replicate made.length 0) hok (by simp only [takesOk, List.length_replicate, Bool.and_eq_true, decide_eq_true_eq, true_and]; exact vals_iff.2 (fun x hx => by rw [List.eq_of_mem_replicate hx]; omega))
  refine ⟨tks, rfl, ⟨h1, h2, fun x hx => ?_, fun x hx => (h3 x hx).2⟩⟩
  obtain ⟨tks2, e, hS⟩ := ok_sh hok (h3 x hx).1
  rw [Tk.map_inj _ _ e]; exact hS

set_option maxHeartbeats 4000000 in
theorem rowNew_good (Am At Ao : Option Addr) (cm ct co : Nat) (made : List Bool) (tks : List Tk) (l : List Ordr) (B : Nat) (w0 w : World) (hb : Below B w0 w) (hB : B ≤ w.heap.size) (hs : SheetAt B w0 Am cm At ct made (tks.map Tk.enc)) (hl : l.length ≤ maxLen) (hx : OrdsAt B w0 Ao l) (hfit : RowFit made tks l) (hkb : ∀ x ∈ l, x.2.length ≤ 1048576) (hok : rowOkP made (tks.map Tk.enc) l = true) :
    Calls Try.prog 34 #[.agg #[.slice Am made.length cm, .slice At tks.length ct], .slice Ao l.length co] w (fun e w' => GivesRR (l.map (newP made tks), true) e w w') := by
  have h6 := hfit.six
  have hal := below_al (Below.refl w.heap.size w) (.cells #[.slice Am made.length cm, .slice At tks.length ct] 31 (0, 0))
  have k0 := rowOk_calls Am At Ao cm ct co made (tks.map Tk.enc) l B w0 _ (below_up' hb hB hal) (Nat.le_trans hB hal.size) hs hl hx
  rw [hok] at k0
  simp only [List.length_map] at k0
  have hG : ∀ x ∈ l, ∀ Ai ci Ak ck, OrdIs B w0 Ai ci Ak ck x → MkEnv.Good ⟨Am, cm, At, ct, Ai, ci, B, w0⟩ ⟨made, tks, x.1⟩ := fun x hxl Ai ci Ak ck h => ⟨hs, h.ia, h.il, h.im, hfit.ok x hxl⟩
  replace hG := Lib.hid hG
  replace hfit := Lib.hid hfit
  replace hkb := Lib.hid hkb
  replace k0 := Lib.hid k0
  replace hal := Lib.hid hal
  replace hb := Lib.hid hb
  replace hx := Lib.hid hx
  clear hs hok hl
  go_enter Try.func34, Try.ntmps34
  go_wp2_with fail
  refine k0.out.mono ?_
  rintro e w1 ⟨rfl, h1⟩
  have z1 := h1.size
  simp at z1
  have x0 : w1.cell? ⟨w.heap.size, 0, none⟩ = some (.slice Am made.length cm) := (h1.cell (p := ⟨w.heap.size, 0, none⟩) (by simp)).trans (cellm (heap_alloc_new w _) 0)
  have x1 : w1.cell? ⟨w.heap.size, 1, none⟩ = some (.slice At tks.length ct) := (h1.cell (p := ⟨w.heap.size, 1, none⟩) (by simp)).trans (cellm (heap_alloc_new w _) 1)
  have b1 := hal.out.trans (h1.mono hal.out.size)
  have hs0 : w.heap.size < w1.heap.size := z1
  replace b1 := Lib.hid b1
  clear h1 k0 hal
  go_wp2_with fail
  go_loopw [6, 8, 9, 10, 12, 13, 14, 21] (fun o _ _ _ _ _ _ i wr => ∃ (j : Nat) (vs : List Value), j ≤ l.length ∧ i = .int .i64 j ∧ Hid (OwnRR w1.heap.size wr.heap.size wr o vs ((l.take j).map (newP made tks))) ∧ Hid (Below w1.heap.size w1 wr)) (fun _ _ _ _ _ _ _ i _ => l.length - (intOf i).toNat)
  case atStart => exact ⟨0, [], Nat.zero_le _, rfl, Lib.hid (OwnRR.nil _ (World.ownsRow_nil _ _ _ _) (fun g e => by cases e)), Lib.hid (Below.refl _ _)⟩
  case round =>
    obtain ⟨j, vs, hj, rfl, hO, hw⟩ := hrel
    obtain ⟨w9, hw9⟩ : ∃ w9, w9 = wr := ⟨_, rfl⟩
    subst hw9
    have y0 := (hw.out.cell (p := ⟨w.heap.size, 0, none⟩) hs0).trans x0
    have y1 := (hw.out.cell (p := ⟨w.heap.size, 1, none⟩) hs0).trans x1
    have hww9 := b1.out.trans (hw.out.mono b1.out.size)
    have z9 := hww9.size
    have z91 := hw.out.size
    replace hww9 := Lib.hid hww9
    have hs9 : w.heap.size < w9.heap.size := by omega
    by_cases hlt : j < l.length
    · obtain ⟨b, o, Ai, ci, Ak, ck, rfl, hbl, c1, c2, hoi⟩ := hx.out.at (below_up' hb.out hB hww9.out) (Nat.le_trans hB z9) j hlt
      have hxm := List.getElem_mem hlt
      have hgd := hG.out _ hxm Ai ci Ak ck hoi
      have hal := below_al (Below.refl w9.heap.size w9) (.cells #[.slice Ai l[j].1.length ci, .slice Ak l[j].2.length ck] 116 (0, 0))
      have k1 := newMaker_calls ⟨Am, cm, At, ct, Ai, ci, B, w0⟩ ⟨made, tks, l[j].1⟩ _ (below_up' (below_up' hb.out hB hww9.out) (Nat.le_trans hB z9) hal) (Nat.le_trans hB (Nat.le_trans z9 hal.size))
      replace k1 := Lib.hid k1
      replace hoi := Lib.hid hoi
      replace hgd := Lib.hid hgd
      replace hal := Lib.hid hal
      replace hxm := Lib.hid hxm
      go_wp2_with fail
      refine k1.out.mono ?_
      rintro e w4 ⟨m, F, rfl, hM, hF, h4⟩
      have h4z := h4.size
      simp at h4z
      have q1 : w4.cell? ⟨w9.heap.size, 1, none⟩ = some (.slice Ak l[j].2.length ck) := (h4.cell (p := ⟨w9.heap.size, 1, none⟩) (by simp)).trans (cellm (heap_alloc_new w9 _) 1)
      have b4 : Below w9.heap.size w9 w4 := hal.out.trans (h4.mono hal.out.size)
      have hF4 : ∀ i, F i → w9.heap.size ≤ i := fun i hi => by have := hF i hi; simp at this; omega
      have hall := newP_all (hfit.out.ok _ hxm.out) hfit.out.safe
      have hkey := keysOk_iff.1 (hfit.out.keys _ hxm.out)
      have hten := (hfit.out.ok _ hxm.out).ten
      dsimp only at hten
      have hkl := hkb.out _ hxm.out
      have hc5 := key_calls _ _ hgd.out
      replace hkey := Lib.hid hkey
      replace hc5 := Lib.hid hc5
      replace hM := Lib.hid hM
      replace hF4 := Lib.hid hF4
      replace b4 := Lib.hid b4
      replace hall := Lib.hid hall
      have hs4 : w9.heap.size < w4.heap.size := by omega
      clear hF h4 k1 hal y0 y1 c1 c2
      go_wp2_with fail
      go_loopw [10, 12, 13, 14, 32] (fun o _ _ _ i wr => ∃ (q : Nat) (st : MkSt) (F : Nat → Prop) (outl : List Int), q ≤ l[j].2.length ∧ i = .int .i64 q ∧ Hid (outl.length = q) ∧ Hid (wr.ownsRow w9.heap.size 3 1 o q (ints outl)) ∧ Hid (MkI ⟨Am, cm, At, ct, Ai, ci, B, w0⟩ ⟨made, tks, l[j].1⟩ m made.length st wr F) ∧
        Hid (∀ i, F i → w9.heap.size ≤ i ∧ o.ownBlock ≠ some i) ∧ Hid (Below w9.heap.size w9 wr) ∧ Hid (allL ⟨made, tks, l[j].1⟩ (l[j].2.drop q) st outl = (newP made tks l[j], true))) (fun _ _ _ _ i _ => l[j].2.length - (intOf i).toNat)
      case atStart => exact ⟨0, st0, F, [], Nat.zero_le _, rfl, Lib.hid rfl, Lib.hid (World.ownsRow_nil _ _ _ _), Lib.hid ⟨hM.out, inv0 _⟩, Lib.hid (fun i hi => ⟨hF4.out i hi, fun e => by cases e⟩), b4, hall⟩
      case round =>
        obtain ⟨q, st, F, outl, hq, rfl, hlen, hown, hM, hF, hw2, he⟩ := hrel
        have hww := hww9.out.trans (hw2.out.mono z9)
        have hw1 := hw.out.trans (hw2.out.mono z91)
        replace hw1 := Lib.hid hw1
        by_cases hlt2 : q < l[j].2.length
        · have he2 := he.out
          rw [List.drop_eq_getElem_cons hlt2, allL] at he2
          have hkr := hkey.out l[j].2[q] (List.getElem_mem _)
          have hkc := hc5.out m made.length st l[j].2[q] _ F (by omega) (by omega) hM.out
          obtain ⟨r, hr⟩ : ∃ r, keyP ⟨made, tks, l[j].1⟩ made.length st l[j].2[q] = r := ⟨_, rfl⟩
          simp only [hr] at he2 hkc
          obtain ⟨bk, ok, rfl, hbk, ck0⟩ := hoi.out.ka.at (below_up' hb.out hB hww) (Nat.le_trans hB hww.size) q hlt2
          have hrok : r.1.2 = true := by
            cases hr2 : r.1.2 with
            | true => rfl
            | false => rw [hr2] at he2; simp at he2
          rw [if_pos hrok] at he2
          replace hkc := Lib.hid hkc
          replace hr := Lib.hid hr
          replace he2 := Lib.hid he2
          replace hrok := Lib.hid hrok
          replace hww := Lib.hid hww
          clear he
          go_wp2_with fail
          refine hkc.out.mono ?_
          rintro e w5 ⟨rfl, v1, v2, F5, hM5, t5⟩
          have hown5 : w5.ownsRow w9.heap.size 3 1 u10 q (ints outl) := ownsRow_block hown.out (fun i hi => t5.block i (hown.out.lt i hi).2 (fun hf => (hF.out i hf).2 hi))
          have hF5 : ∀ i, F5 i → w9.heap.size ≤ i ∧ u10.ownBlock ≠ some i := fun i hi => (t5.fresh i hi).elim (hF.out i) (fun hge => ⟨Nat.le_trans hw2.out.size hge, fun e => by have := (hown.out.lt i e).2; omega⟩)
          have hw5 := hw2.out.trans (t5.below (B := w9.heap.size) hw2.out.size (fun i hi => (hF.out i hi).1))
          replace hM5 := Lib.hid hM5
          replace hF5 := Lib.hid hF5
          replace hw5 := Lib.hid hw5
          replace hown5 := Lib.hid hown5
          clear t5
          go_wp2_with (at_builtin; go_loud (with_reducible refine wpList_app1 (by rfl) (.tmp 42) (.tmp 44) 26 (by rfl) intTy w9.heap.size u10 q (ints outl) (by with_unfolding_all rfl) (hown5.out.alloc _) w5.heap.size 1 [.int .i64 r.1.1] (by with_unfolding_all rfl) (by with_unfolding_all rfl) ⟨_, _, heap_alloc_new w5 _, rfl⟩ (one_int _ _) ?_ ?_ ?_ ?_))
          · unfold maxLen; omega
          · omega
          · have := hw5.out.size; simp; omega
          intro g cap w7 hown7 hgrow7 hat7
          have hM7 := hM5.out.grown hgrow7 (fun i hi => (hF5.out i hi).2) (fun i hi => Nat.le_trans hB (Nat.le_trans z9 (hown5.out.lt i hi).1))
          have hw7 := (hw5.out.alloc hw5.out.size _).grown hgrow7 (by have := hw5.out.size; simp; omega) (fun i hi => (hown5.out.lt i hi).1)
          have hF7 : ∀ i, F5 i → w9.heap.size ≤ i ∧ (Value.slice (some ⟨g, 0, none⟩) (q + 1) cap).ownBlock ≠ some i := fun i hi => ⟨(hF5.out i hi).1, fun e => by
            cases e
            rcases hat7 with e | e
            · exact (hF5.out _ hi).2 e
            · have h3 : g < w5.heap.size := ((MakerIs.holds _ _ m made.length).own _ _ _ hM5.out _ hi).2
              have h4 : g = w5.heap.size + 1 := by simpa using e
              omega⟩
          have hown7' : w7.ownsRow w9.heap.size 3 1 (.slice (some ⟨g, 0, none⟩) (q + 1) cap) (q + 1) (ints (outl ++ [r.1.1])) := by simpa [ints_append, ints] using hown7
          replace hM7 := Lib.hid hM7
          replace hw7 := Lib.hid hw7
          replace hF7 := Lib.hid hF7
          replace hown7' := Lib.hid hown7'
          have hlen' : (outl ++ [r.1.1]).length = q + 1 := by have := hlen.out; simp [this]
          replace hlen' := Lib.hid hlen'
          clear hown7 hgrow7 hat7
          go_wp2_with fail
          go_roundw
          case rel => exact ⟨q + 1, r.2, F5, outl ++ [r.1.1], by omega, by go_num, hlen', hown7', hM7, hF7, hw7, he2⟩
          case measure => simp [intOf]; omega
        · have hd : l[j].2.drop q = [] := List.drop_eq_nil_of_le (by omega)
          have he2 := he.out
          rw [hd, allL] at he2
          have hout : outl = newP made tks l[j] := (Prod.mk.inj he2).1
          have hql : outl.length = q := hlen.out
          have hown9 : wr.ownsRow w9.heap.size 3 1 u10 outl.length (ints outl) := by rw [hql]; exact hown.out
          rw [hout] at hown9
          obtain ⟨Al, cl, rfl, -⟩ := ownsRow_cells hown9
          have hO2 := (hO.out.up hw2.out (Nat.le_refl _))
          have hz2 := hw2.out.size
          have hlj : ((l.take j).map (newP made tks)).length = j := by simp; omega
          have hal2 : (wr.alloc (.cells #[.slice Al (newP made tks l[j]).length cl] 26 (0, 0))).ownsRow w1.heap.size 26 1 u6 j vs := by have := hO2.out.alloc (.cells #[.slice Al (newP made tks l[j]).length cl] 26 (0, 0)); rw [hlj] at this; exact this
          replace hal2 := Lib.hid hal2
          replace hd := Lib.hid hd
          replace hout := Lib.hid hout
          replace hown9 := Lib.hid hown9
          replace hO2 := Lib.hid hO2
          replace hww := Lib.hid hww
          replace hlj := Lib.hid hlj
          clear he he2 hown hM hF hlen hql
          go_wp2_with (at_builtin; go_loud (with_reducible refine wpList_app1 (by rfl) (.tmp 47) (.tmp 49) 52 (by rfl) rowTy w1.heap.size u6 j vs (by with_unfolding_all rfl) hal2.out wr.heap.size 1 [.slice Al (newP made tks l[j]).length cl] (by with_unfolding_all rfl) (by with_unfolding_all rfl) ⟨_, _, heap_alloc_new wr _, rfl⟩ ?_ ?_ ?_ ?_ ?_))
          · intro u hu; rw [List.mem_singleton.1 hu]; rfl
          · unfold maxLen; omega
          · omega
          · have := hw1.out.size; simp; omega
          intro g cap w7 hown7 hgrow7 hat7
          have hO7 := hO2.out.app hown9.out z91 hz2 hgrow7 (g := g) (cap := cap) (by rw [hlj.out]; exact hown7) (by simpa using hat7)
          have hts := List.take_succ_eq_append_getElem hlt
          have hmap : (l.take j).map (newP made tks) ++ [newP made tks l[j]] = (l.take (j + 1)).map (newP made tks) := by rw [hts, List.map_append]; rfl
          rw [hmap, hlj.out] at hO7
          have hw7 := (hw1.out.alloc hw1.out.size _).grown hgrow7 (by have := hw1.out.size; simp; omega) (fun i hi => (hO2.out.out.lt i hi).1)
          replace hO7 := Lib.hid hO7
          replace hts := Lib.hid hts
          replace hmap := Lib.hid hmap
          replace hw7 := Lib.hid hw7
          clear hown7 hgrow7 hat7
          go_wp2_with fail
          go_roundw
          case rel => exact ⟨j + 1, _, by omega, by go_num, hO7, hw7⟩
          case measure => simp [intOf]; omega
    · have hd : l.take j = l := List.take_of_length_le (by omega)
      have hO2 := hO.out
      rw [hd] at hO2
      replace hO2 := Lib.hid hO2
      replace hd := Lib.hid hd
      clear hO
      go_wp2_with fail
      go_ret2
      exact ⟨_, _, rfl, hO2.out.lower b1.out.size, hww9.out⟩
end Go.Proofs.Ytpccgdkidnkppaa

set_option linter.unusedVariables false
set_option linter.unusedSimpArgs false
namespace Go.Proofs.Ytpccgdkidnkppaa
open Go Go.RowKit

theorem rowNew_bad (Am At Ao : Option Addr) (cm ct co : Nat) (made : List Bool) (tasks : List Task) (l : List Ordr) (B : Nat) (w0 w : World) (hb : Below B w0 w) (hB : B ≤ w.heap.size) (hs : SheetAt B w0 Am cm At ct made tasks) (hl : l.length ≤ maxLen) (hx : OrdsAt B w0 Ao l) (hok : rowOkP made tasks l = false) :
    Calls Try.prog 34 #[.agg #[.slice Am made.length cm, .slice At tasks.length ct], .slice Ao l.length co] w (fun e w' => GivesRR ([], false) e w w') := by
  have hal := below_al (Below.refl w.heap.size w) (.cells #[.slice Am made.length cm, .slice At tasks.length ct] 31 (0, 0))
  have k0 := rowOk_calls Am At Ao cm ct co made tasks l B w0 _ (below_up' hb hB hal) (Nat.le_trans hB hal.size) hs hl hx
  rw [hok] at k0
  replace k0 := Lib.hid k0
  replace hal := Lib.hid hal
  clear hs hok hl hx hb
  go_enter Try.func34, Try.ntmps34
  go_wp2_with fail
  refine k0.out.mono ?_
  rintro e w1 ⟨rfl, h1⟩
  have b1 := hal.out.trans (h1.mono hal.out.size)
  replace b1 := Lib.hid b1
  clear h1 k0 hal
  go_wp2_with fail
  go_ret2
  exact ⟨_, [], rfl, OwnRR.nil _ (World.ownsRow_nil _ _ _ _) (fun g e => by cases e), b1.out⟩

theorem specRowNew_bad (Am At Ao : Option Addr) (cm ct co : Nat) (made : List Bool) (tasks : List Task) (l : List Ordr) (B : Nat) (w0 w : World) (hb : Below B w0 w) (hB : B ≤ w.heap.size) (hs : SheetAt B w0 Am cm At ct made tasks) (hnod : ∀ T ∈ tasks, nodes T ≤ 1000000000) (hml : (made.length : Int) ≤ 9223372036854775807) (hl : l.length ≤ maxLen) (hx : OrdsAt B w0 Ao l) (hok : rowOkP made tasks l = false) :
    Calls Try.prog 35 #[.agg #[.slice Am made.length cm, .slice At tasks.length ct], .slice Ao l.length co] w (fun e w' => GivesRR ([], false) e w w') := by
  have hal := below_al (below_al (Below.refl w.heap.size w) (.cells #[.slice Am made.length cm, .slice At tasks.length ct] 31 (0, 0))) (.cells #[] 26 (0, 0))
  have k0 := specRowOk_calls Am At Ao cm ct co made tasks l B w0 _ (below_up' hb hB hal) (Nat.le_trans hB hal.size) hs hnod hml hl hx
  have hm : ((w.alloc (.cells #[.slice Am made.length cm, .slice At tasks.length ct] 31 (0, 0))).alloc (.cells #[] 26 (0, 0))).ownsRow w.heap.size 26 1 (.slice (some ⟨w.heap.size + 1, 0, none⟩) 0 0) 0 [] := by
    simpa using World.ownsRow_made (base := w.heap.size) (e := 26) (w.alloc (.cells #[.slice Am made.length cm, .slice At tasks.length ct] 31 (0, 0))) #[] 0 (by simp) (by simp [maxLen]) rfl
  rw [hok] at k0
  replace k0 := Lib.hid k0
  replace hal := Lib.hid hal
  replace hm := Lib.hid hm
  clear hs hok hl hx hb hnod hml
  go_enter Try.func35, Try.ntmps35
  go_wp2_with fail
  refine k0.out.mono ?_
  rintro e w1 ⟨rfl, h1⟩
  have b1 := hal.out.trans (h1.mono hal.out.size)
  have hm1 := ownsRow_block (w' := w1) hm.out (fun i hi => h1.block i ((hm.out.lt i hi).2))
  have hg1 : ∀ g : Nat, (Value.slice (some ⟨w.heap.size + 1, 0, none⟩) 0 0).ownBlock = some g → g < w1.heap.size := fun g e => by have := (hm1.lt g e).2; exact this
  replace b1 := Lib.hid b1
  replace hm1 := Lib.hid hm1
  replace hg1 := Lib.hid hg1
  clear h1 k0 hal hm
  go_wp2_with fail
  go_ret2
  exact ⟨_, [], rfl, OwnRR.nil _ hm1.out hg1.out, b1.out⟩

set_option maxHeartbeats 4000000 in
theorem specRowNew_good (Am At Ao : Option Addr) (cm ct co : Nat) (made : List Bool) (tks : List Tk) (l : List Ordr) (B : Nat) (w0 w : World) (hb : Below B w0 w) (hB : B ≤ w.heap.size) (hs : SheetAt B w0 Am cm At ct made (tks.map Tk.enc)) (hnod : ∀ T ∈ tks.map Tk.enc, nodes T ≤ 1000000000) (hl : l.length ≤ maxLen) (hx : OrdsAt B w0 Ao l) (hfit : RowFit made tks l) (hkb : ∀ x ∈ l, x.2.length ≤ 1048576) (hml : (made.length : Int) ≤ 9223372036854775807) (hok : rowOkP made (tks.map Tk.enc) l = true) :
    Calls Try.prog 35 #[.agg #[.slice Am made.length cm, .slice At tks.length ct], .slice Ao l.length co] w (fun e w' => GivesRR (l.map (newP made tks), true) e w w') := by
  have h6 := hfit.six
  have hal := below_al (below_al (Below.refl w.heap.size w) (.cells #[.slice Am made.length cm, .slice At tks.length ct] 31 (0, 0))) (.cells #[] 26 (0, 0))
  have k0 := specRowOk_calls Am At Ao cm ct co made (tks.map Tk.enc) l B w0 _ (below_up' hb hB hal) (Nat.le_trans hB hal.size) hs hnod hml hl hx
  have hm : ((w.alloc (.cells #[.slice Am made.length cm, .slice At tks.length ct] 31 (0, 0))).alloc (.cells #[] 26 (0, 0))).ownsRow (w.heap.size + 1) 26 1 (.slice (some ⟨w.heap.size + 1, 0, none⟩) 0 0) 0 [] := by
    simpa using World.ownsRow_made (base := w.heap.size + 1) (e := 26) (w.alloc (.cells #[.slice Am made.length cm, .slice At tks.length ct] 31 (0, 0))) #[] 0 (by simp) (by simp [maxLen]) rfl
  rw [hok] at k0
  simp only [List.length_map] at k0
  have hG : ∀ x ∈ l, ∀ Ai ci Ak ck, OrdIs B w0 Ai ci Ak ck x → ∀ k, k ∈ x.2 → ∀ w2, Below w.heap.size w w2 → Calls Try.prog 95 #[.agg #[.slice Am made.length cm, .slice At tks.length ct], .slice Ai x.1.length ci, .int .i64 k] w2 fun e w' =>
      e = .returned (.tuple #[.int .i64 (specKeyP ⟨made, tks, x.1⟩ k).1, .bool true]) ∧ Below w2.heap.size w2 w' := fun x hxl Ai ci Ak ck h k hk w2 hw2 => by
    have hkr := keysOk_iff.1 (hfit.keys x hxl) k hk
    have := specBuildKey_good ⟨Am, cm, At, ct, Ai, ci, B, w0⟩ ⟨made, tks, x.1⟩ ⟨hs, h.ia, h.il, h.im, hfit.ok x hxl⟩ hnod k w2 (below_up' hb hB hw2) (Nat.le_trans hB hw2.size) hkr.1 hkr.2
    rw [safe_all (hfit.ok x hxl) hfit.safe k] at this
    exact this
  replace hG := Lib.hid hG
  replace hkb := Lib.hid hkb
  replace k0 := Lib.hid k0
  replace hal := Lib.hid hal
  replace hb := Lib.hid hb
  replace hx := Lib.hid hx
  replace hm := Lib.hid hm
  clear hs hok hl hnod hfit hml
  go_enter Try.func35, Try.ntmps35
  go_wp2_with fail
  refine k0.out.mono ?_
  rintro e w1 ⟨rfl, h1⟩
  have z1 := h1.size
  simp at z1
  have x0 : w1.cell? ⟨w.heap.size, 0, none⟩ = some (.slice Am made.length cm) := (h1.cell (p := ⟨w.heap.size, 0, none⟩) (by simp; omega)).trans ((cell_al (by simp)).trans (cellm (heap_alloc_new w _) 0))
  have x1 : w1.cell? ⟨w.heap.size, 1, none⟩ = some (.slice At tks.length ct) := (h1.cell (p := ⟨w.heap.size, 1, none⟩) (by simp; omega)).trans ((cell_al (by simp)).trans (cellm (heap_alloc_new w _) 1))
  have b1 := hal.out.trans (h1.mono hal.out.size)
  have hs0 : w.heap.size < w1.heap.size := by omega
  have hm1 := ownsRow_block (w' := w1) hm.out (fun i hi => h1.block i ((hm.out.lt i hi).2))
  have hg1 : ∀ g : Nat, (Value.slice (some ⟨w.heap.size + 1, 0, none⟩) 0 0).ownBlock = some g → g < w1.heap.size := fun g e => by have := (hm1.lt g e).2; exact this
  replace b1 := Lib.hid b1
  replace hm1 := Lib.hid hm1
  replace hg1 := Lib.hid hg1
  clear h1 k0 hal hm
  go_wp2_with fail
  go_loopw [6, 7, 8, 9, 10, 11] (fun o i _ _ _ _ wr => ∃ (j : Nat) (vs : List Value), j ≤ l.length ∧ i = .int .i64 j ∧ Hid (OwnRR (w.heap.size + 1) wr.heap.size wr o vs ((l.take j).map (newP made tks))) ∧ Hid (Below (w.heap.size + 1) w1 wr)) (fun _ i _ _ _ _ _ => l.length - (intOf i).toNat)
  case atStart => exact ⟨0, [], Nat.zero_le _, rfl, Lib.hid (OwnRR.nil _ hm1.out hg1.out), Lib.hid (Below.refl _ _)⟩
  case round =>
    obtain ⟨j, vs, hj, rfl, hO, hw⟩ := hrel
    obtain ⟨w9, hw9⟩ : ∃ w9, w9 = wr := ⟨_, rfl⟩
    subst hw9
    have hww9 := b1.out.trans (hw.out.mono (Nat.le_succ _))
    have z9 := hww9.size
    have z91 := hw.out.size
    have hs9 : w.heap.size < w9.heap.size := by omega
    have y0 := (hw.out.cell (p := ⟨w.heap.size, 0, none⟩) (Nat.lt_succ_self _)).trans x0
    have y1 := (hw.out.cell (p := ⟨w.heap.size, 1, none⟩) (Nat.lt_succ_self _)).trans x1
    replace hww9 := Lib.hid hww9
    by_cases hlt : j < l.length
    · obtain ⟨b, o, Ai, ci, Ak, ck, rfl, hbl, c1, c2, hoi⟩ := hx.out.at (below_up' hb.out hB hww9.out) (Nat.le_trans hB z9) j hlt
      have hxm := List.getElem_mem hlt
      have hgd := hG.out _ hxm Ai ci Ak ck hoi
      have hkl := hkb.out _ hxm
      have hal := below_al (Below.refl w9.heap.size w9) (.cells #[] 3 (0, 0))
      have hm9 : (w9.alloc (.cells #[] 3 (0, 0))).ownsRow w9.heap.size 3 1 (.slice (some ⟨w9.heap.size, 0, none⟩) 0 0) 0 (ints []) := by simpa [ints] using World.ownsRow_made (base := w9.heap.size) w9 #[] 0 (by simp) (by simp [maxLen]) rfl
      replace hoi := Lib.hid hoi
      replace hgd := Lib.hid hgd
      replace hal := Lib.hid hal
      replace hm9 := Lib.hid hm9
      replace hxm := Lib.hid hxm
      go_wp2_with fail
      go_loopw [8, 9, 10, 11] (fun o i _ _ wr => ∃ (q : Nat), q ≤ l[j].2.length ∧ i = .int .i64 q ∧ Hid (wr.ownsRow w9.heap.size 3 1 o q (ints ((l[j].2.take q).map fun k => (specKeyP ⟨made, tks, l[j].1⟩ k).1))) ∧ Hid (Below w9.heap.size w9 wr)) (fun _ i _ _ _ => l[j].2.length - (intOf i).toNat)
      case atStart => exact ⟨0, Nat.zero_le _, rfl, hm9, hal⟩
      case round =>
        obtain ⟨q, hq, rfl, hown, hw2⟩ := hrel
        obtain ⟨w3, hw3⟩ : ∃ w3, w3 = wr := ⟨_, rfl⟩
        subst hw3
        have hww := hww9.out.trans (hw2.out.mono z9)
        have hw1 := hw.out.trans (hw2.out.mono hs9)
        replace hw1 := Lib.hid hw1
        have z3 := hw2.out.size
        have hs3 : w.heap.size < w3.heap.size := by omega
        have hbl3 : b < w3.heap.size := by omega
        have v0 := (hw2.out.cell (p := ⟨w.heap.size, 0, none⟩) hs9).trans y0
        have v1 := (hw2.out.cell (p := ⟨w.heap.size, 1, none⟩) hs9).trans y1
        have d1 := (hw2.out.cell (p := ⟨b, o + j * 2, none⟩) hbl).trans c1
        have d2 := (hw2.out.cell (p := ⟨b, o + j * 2 + 1, none⟩) hbl).trans c2
        by_cases hlt2 : q < l[j].2.length
        · obtain ⟨bk, ok, rfl, hbk, ck0⟩ := hoi.out.ka.at (below_up' hb.out hB hww) (Nat.le_trans hB hww.size) q hlt2
          have hcl := hgd.out l[j].2[q] (List.getElem_mem _) w3.drew hww.drew
          have hbk3 : bk < w3.heap.size := by omega
          have hts := List.take_succ_eq_append_getElem hlt2
          obtain ⟨r, hr⟩ : ∃ r, (specKeyP ⟨made, tks, l[j].1⟩ l[j].2[q]).1 = r := ⟨_, rfl⟩
          rw [hr] at hcl
          replace hcl := Lib.hid hcl
          replace hr := Lib.hid hr
          replace hts := Lib.hid hts
          replace hww := Lib.hid hww
          go_wp2_with fail
          go_region_held3 (fun w' => w'.cell? ⟨w.heap.size, 0, none⟩ = some (.slice Am made.length cm) ∧ w'.cell? ⟨w.heap.size, 1, none⟩ = some (.slice At tks.length ct) ∧ w'.cell? ⟨b, o + j * 2, none⟩ = some (.slice Ai l[j].1.length ci) ∧ w'.cell? ⟨b, o + j * 2 + 1, none⟩ = some (.slice (some ⟨bk, ok, none⟩) l[j].2.length ck) ∧ w'.cell? ⟨bk, ok + q, none⟩ = some (.int .i64 l[j].2[q])) (first | exact ⟨l1, l2, l3, l4, l5⟩ | exact ⟨v0, v1, d1, d2, ck0⟩)
            (first | (go_at_call 95; refine hcl.out.mono ?_; rintro e w10 ⟨rfl, h10⟩; have l1 := kept_cell h10 hs3 v0; have l2 := kept_cell h10 hs3 v1; have l3 := kept_cell h10 hbl3 d1; have l4 := kept_cell h10 hbl3 d2; have l5 := kept_cell h10 hbk3 ck0))
          all_goals
            have hw10 := hw2.out.drew.trans (h10.mono hw2.out.size)
            have hown10 := ownsRow_block (w' := w10) hown.out (fun i hi => h10.block i (hown.out.lt i hi).2)
            replace hw10 := Lib.hid hw10
            replace hown10 := Lib.hid hown10
            clear h10 l1 l2 l3 l4 l5 v0 v1 d1 d2 ck0
            go_wp2_with (at_builtin; go_loud (with_reducible refine wpList_app1 (by rfl) (.tmp 53) (.tmp 55) 26 (by rfl) intTy w9.heap.size u8 q (ints ((l[j].2.take q).map fun k => (specKeyP ⟨made, tks, l[j].1⟩ k).1)) (by with_unfolding_all rfl) (hown10.out.alloc _) w10.heap.size 1 [.int .i64 r] (by with_unfolding_all rfl) (by with_unfolding_all rfl) ⟨_, _, heap_alloc_new w10 _, rfl⟩ (one_int _ _) ?_ ?_ ?_ ?_))
            · unfold maxLen; omega
            · omega
            · have := hw10.out.size; simp; omega
            intro g cap w7 hown7 hgrow7 hat7
            have hw7 := (hw10.out.alloc hw10.out.size _).grown hgrow7 (by have := hw10.out.size; simp; omega) (fun i hi => (hown10.out.lt i hi).1)
            have hown7' : w7.ownsRow w9.heap.size 3 1 (.slice (some ⟨g, 0, none⟩) (q + 1) cap) (q + 1) (ints ((l[j].2.take (q + 1)).map fun k => (specKeyP ⟨made, tks, l[j].1⟩ k).1)) := by
              rw [hts.out, List.map_append, ints_append]
              simp only [List.map_cons, List.map_nil, hr.out]
              rw [← List.map_take] at hown7
              exact hown7
            replace hw7 := Lib.hid hw7
            replace hown7' := Lib.hid hown7'
            clear hown7 hgrow7 hat7
            go_wp2_with fail
            go_roundw
            case rel => exact ⟨q + 1, by omega, by go_num, hown7', hw7⟩
            case measure => simp [intOf]; omega
        · have hd : l[j].2.take q = l[j].2 := List.take_of_length_le (by omega)
          have hown9 := hown.out
          rw [hd] at hown9
          have hql : q = (newP made tks l[j]).length := by simp [newP]; omega
          have hown9' : w3.ownsRow w9.heap.size 3 1 u8 (newP made tks l[j]).length (ints (newP made tks l[j])) := by rw [← hql]; exact hown9
          obtain ⟨Al, cl, rfl, -⟩ := ownsRow_cells hown9'
          have hO2 := (hO.out.up hw2.out (Nat.le_refl _))
          have hz2 := hw2.out.size
          have hlj : ((l.take j).map (newP made tks)).length = j := by simp; omega
          have hal2 : (w3.alloc (.cells #[.slice Al (newP made tks l[j]).length cl] 26 (0, 0))).ownsRow (w.heap.size + 1) 26 1 u6 j vs := by have := hO2.out.alloc (.cells #[.slice Al (newP made tks l[j]).length cl] 26 (0, 0)); rw [hlj] at this; exact this
          replace hal2 := Lib.hid hal2
          replace hd := Lib.hid hd
          replace hown9' := Lib.hid hown9'
          replace hO2 := Lib.hid hO2
          replace hlj := Lib.hid hlj
          replace hql := Lib.hid hql
          clear hown hown9
          go_wp2_with (at_builtin; go_loud (with_reducible refine wpList_app1 (by rfl) (.tmp 57) (.tmp 59) 52 (by rfl) rowTy (w.heap.size + 1) u6 j vs (by with_unfolding_all rfl) hal2.out w3.heap.size 1 [.slice Al (newP made tks l[j]).length cl] (by with_unfolding_all rfl) (by with_unfolding_all rfl) ⟨_, _, heap_alloc_new w3 _, rfl⟩ ?_ ?_ ?_ ?_ ?_))
          · intro u hu; rw [List.mem_singleton.1 hu]; rfl
          · unfold maxLen; omega
          · omega
          · have := hw1.out.size; simp; omega
          intro g cap w7 hown7 hgrow7 hat7
          have hO7 := hO2.out.app hown9'.out hs9 hz2 hgrow7 (g := g) (cap := cap) (by rw [hlj.out]; exact hown7) (by simpa using hat7)
          have hts := List.take_succ_eq_append_getElem hlt
          have hmap : (l.take j).map (newP made tks) ++ [newP made tks l[j]] = (l.take (j + 1)).map (newP made tks) := by rw [hts, List.map_append]; rfl
          rw [hmap, hlj.out] at hO7
          have hw7 := (hw1.out.alloc (by have := hw1.out.size; omega) _).grown hgrow7 (by simp; omega) (fun i hi => (hO2.out.out.lt i hi).1)
          replace hO7 := Lib.hid hO7
          replace hts := Lib.hid hts
          replace hmap := Lib.hid hmap
          replace hw7 := Lib.hid hw7
          clear hown7 hgrow7 hat7
          go_wp2_with fail
          go_roundw
          case rel => exact ⟨j + 1, _, by omega, by go_num, hO7, hw7⟩
          case measure => simp [intOf]; omega
    · have hd : l.take j = l := List.take_of_length_le (by omega)
      have hO2 := hO.out
      rw [hd] at hO2
      replace hO2 := Lib.hid hO2
      replace hd := Lib.hid hd
      clear hO y0 y1
      go_wp2_with fail
      go_ret2
      exact ⟨_, _, rfl, hO2.out.lower (Nat.le_succ _), hww9.out⟩
end Go.Proofs.Ytpccgdkidnkppaa

set_option linter.unusedVariables false
set_option linter.unusedSimpArgs false
namespace Go.Proofs.Ytpccgdkidnkppaa
open Go Go.RowKit

def RowC (g : Nat) (made : List Bool) (tasks : List Task) (l : List Ordr) (R : List (List Int) × Bool) : Prop :=
  ∀ (w : World) (Am At : Option Addr) (cm ct : Nat) (Ao : Option Addr) (co : Nat) (B : Nat) (w0 : World), Below B w0 w → B ≤ w.heap.size → SheetAt B w0 Am cm At ct made tasks → OrdsAt B w0 Ao l → l.length ≤ co → co ≤ maxLen →
    Calls Try.prog g #[.agg #[.slice Am made.length cm, .slice At tasks.length ct], .slice Ao l.length co] w (fun e w' => GivesRR R e w w')
theorem rowFit_ok {made : List Bool} {tks : List Tk} {l : List Ordr} (h : RowFit made tks l) : rowOkP made (tks.map Tk.enc) l = true := by
  unfold rowOkP
  simp only [Bool.and_eq_true, decide_eq_true_eq, List.all_eq_true, fitO]
  exact ⟨⟨h.safe, h.six⟩, fun x hx => ⟨(h.ok x hx).takes, h.keys x hx⟩⟩
theorem rowNew_any (made : List Bool) (tasks : List Task) (l : List Ordr) (hnod : ∀ T ∈ tasks, nodes T ≤ 1000000000) (hml : (made.length : Int) ≤ 9223372036854775807) (hkb : ∀ x ∈ l, x.2.length ≤ 1048576) :
    ∃ R : List (List Int) × Bool, (R.2 = true → ∃ tks, tasks = tks.map Tk.enc ∧ RowFit made tks l ∧ R.1 = l.map (newP made tks)) ∧ (R.1.length ≤ 6 ∧ ∀ x ∈ R.1, x.length ≤ 1048576) ∧
      RowC 34 made tasks l R ∧ RowC 35 made tasks l R := by
  cases hok : rowOkP made tasks l with
  | true =>
    obtain ⟨tks, rfl, hfit⟩ := rowOk_fit hok
    refine ⟨(l.map (newP made tks), true), fun _ => ⟨tks, rfl, hfit, rfl⟩, ⟨by simpa using hfit.six, fun x hx => ?_⟩, fun w Am At cm ct Ao co B w0 hb hB hs hx hl hm => ?_, fun w Am At cm ct Ao co B w0 hb hB hs hx hl hm => ?_⟩
    · obtain ⟨y, hy, rfl⟩ := List.mem_map.1 hx
      simpa [newP] using hkb y hy
    · have := rowNew_good Am At Ao cm ct co made tks l B w0 w hb hB hs (Nat.le_trans hl hm) hx hfit hkb hok
      simp only [List.length_map] at this ⊢
      exact this
    · have := specRowNew_good Am At Ao cm ct co made tks l B w0 w hb hB hs hnod (Nat.le_trans hl hm) hx hfit hkb hml hok
      simp only [List.length_map] at this ⊢
      exact this
  | false =>
    refine ⟨([], false), fun h => (by cases h), ⟨by simp, fun x hx => (by cases hx)⟩, fun w Am At cm ct Ao co B w0 hb hB hs hx hl hm => ?_, fun w Am At cm ct Ao co B w0 hb hB hs hx hl hm => ?_⟩
    · exact rowNew_bad Am At Ao cm ct co made tasks l B w0 w hb hB hs (Nat.le_trans hl hm) hx hok
    · exact specRowNew_bad Am At Ao cm ct co made tasks l B w0 w hb hB hs hnod hml (Nat.le_trans hl hm) hx hok

theorem RowsAt.at {B : Nat} {w0 w : World} {A : Option Addr} {ll : List (List Int)} (h : RowsAt B w0 A ll) (hb : Below B w0 w) (hB : B ≤ w.heap.size) (i : Nat) (hi : i < ll.length) : ∃ (b o : Nat) (Ar : Option Addr) (cr : Nat), A = some ⟨b, o, none⟩ ∧ b < w.heap.size ∧ w.cell? ⟨b, o + i, none⟩ = some (.slice Ar ll[i].length cr) ∧ IntsAt w.heap.size w Ar ll[i] := by
  obtain ⟨b, o, Ar, cr, e, hlt, c1, c2, c3, c4⟩ := h i hi
  exact ⟨b, o, Ar, cr, e, by omega, (hb.cell (p := ⟨b, o + i, none⟩) hlt).trans c1, c4.up hb hB⟩

set_option maxHeartbeats 1000000 in
theorem brRows_calls (A : Option Addr) (c : Nat) (A2 : Option Addr) (c2 : Nat) (ll : List (List Int)) (w : World) (hx : RowsAt w.heap.size w A ll) (hy : RowsAt w.heap.size w A2 ll) (hl : ll.length ≤ 1048576) (hs : ∀ x ∈ ll, x.length ≤ 1048576) :
    Calls Try.prog 36 #[.slice A ll.length c, .slice A2 ll.length c2] w fun e w' => e = .returned (.bool true) ∧ Below w.heap.size w w' := by
  replace hx := Lib.hid hx
  replace hy := Lib.hid hy
  replace hs := Lib.hid hs
  go_enter Try.func36, Try.ntmps36
  go_wp2_with fail
  go_loopw [5] (fun i wr => ∃ (j : Nat), j ≤ ll.length ∧ i = .int .i64 j ∧ Hid (Below w.heap.size w wr)) (fun i _ => ll.length - (intOf i).toNat)
  case atStart => exact ⟨0, Nat.zero_le _, rfl, Lib.hid (Below.refl _ _)⟩
  case round =>
    obtain ⟨j, hj, rfl, hw⟩ := hrel
    obtain ⟨w9, hw9⟩ : ∃ w9, w9 = wr := ⟨_, rfl⟩
    subst hw9
    by_cases hlt : j < ll.length
    · obtain ⟨b, o, Ar, cr, rfl, hb, c1, hi1⟩ := hx.out.at hw.out hw.out.size j hlt
      obtain ⟨b2, o2, Ar2, cr2, rfl, hb2, c3, hi2⟩ := hy.out.at hw.out hw.out.size j hlt
      have hm := hs.out _ (List.getElem_mem hlt)
      have hk := brInts_calls Ar cr ll[j] Ar2 cr2 ll[j] w9.drew (hi1.up (Below.refl _ _).drew (Nat.le_refl _)) (hi2.up (Below.refl _ _).drew (Nat.le_refl _)) (by unfold maxLen; omega) (by unfold maxLen; omega)
      rw [decide_eq_true rfl] at hk
      replace hk := Lib.hid hk
      clear hi1 hi2
      go_wp2_with fail
      go_region_held3 (fun w' => w'.cell? ⟨b, o + j, none⟩ = some (.slice Ar ll[j].length cr) ∧ w'.cell? ⟨b2, o2 + j, none⟩ = some (.slice Ar2 ll[j].length cr2)) (first | exact ⟨l1, l2⟩ | exact ⟨c1, c3⟩)
        (first | (go_at_call 23; refine hk.out.mono ?_; rintro e w10 ⟨rfl, h10⟩; have l1 := kept_cell h10 hb c1; have l2 := kept_cell h10 hb2 c3))
      all_goals
        have hw10 := hw.out.drew.trans (h10.mono hw.out.size)
        replace hw10 := Lib.hid hw10
        clear h10 l1 l2 c1 c3
        go_wp2_with fail
        go_roundw
        case rel => exact ⟨j + 1, by omega, by go_num, hw10⟩
        case measure => simp [intOf]; omega
    · go_wp2_with fail
      go_ret
      exact ⟨rfl, hw.out⟩

/-- 'row[n-1:]' -/
theorem slice_last (g o n c : Nat) (hn : n + 1 ≤ c) (hm : c ≤ maxLen) : (∀ W, (Instr.slice 49 (.slice (some ⟨g, o, none⟩) (n + 1) c) (some (.int .i64 n)) none none).run Try.prog W = .ok (.slice (some ⟨g, o + n * 2, none⟩) 1 (c - n)) W) ∧
    (∀ W, (Instr.sliceAt 49 (.slice (some ⟨g, o, none⟩) (n + 1) c) (some (.int .i64 n)) none none).run Try.prog W = .ok (.slice (some ⟨g, o + n * 2, none⟩) 1 (c - n)) W) := by
  unfold maxLen at hm
  have hE : Try.prog.elem 49 = 116 := by simp [Program.elem, Try.underlying49]
  have ht : Try.prog.underlying 49 = some (.slice (Try.prog.elem 49)) := by rw [hE]; exact Try.underlying49
  have hz : ∀ W, (sizeOf 116).run Try.prog W = .ok 2 W := fun W => by kernel_rfl
  have h1 : ∀ W, (Instr.slice 49 (.slice (some ⟨g, o, none⟩) (n + 1) c) (some (.int .i64 n)) none none).run Try.prog W = .ok (.slice (some ⟨g, o + n * 2, none⟩) 1 (c - n)) W := fun W => by
    rw [run_slice_l W 49 _ _ _ ht .i64 n (by omega) (by omega), hE, hz]
    have h : ¬ c = n := by omega
    have h2 : n + 1 - n = 1 := by omega
    simp [Result.andThen, sliced, Addr.add, h, h2]
  exact ⟨h1, fun W => by rw [run_sliceAt_slice W _ _ _ _ _ ht]; exact h1 W⟩
end Go.Proofs.Ytpccgdkidnkppaa

set_option linter.unusedVariables false
set_option linter.unusedSimpArgs false
namespace Go.Proofs.Ytpccgdkidnkppaa
open Go Go.RowKit

section
variable {P : Program} {w : World} {base : Nat} {e t tn : TypeId} {v : Value} {n : Nat} {xs : List Value}
theorem zeroCells_ints (k : Nat) : (Builtin.zeroCells (Value.int .i64 0).cells k) = (ints (List.replicate k 0)).toArray := by
  apply Array.ext'
  simp only [Builtin.zeroCells, Value.cells, ints, List.map_replicate]
  apply List.ext_getElem
  · simp
  · intro i h1 h2
    simp [Nat.mod_one]

/-- append(s, make([]int, k)...) onto a row of numbers that the call owns -/
theorem run_appZ (ty : TypeId) (k : Nat) (hE : ElemTy P t e (.int .i64 0) 1 8) (htn : P.underlying tn = some (.int .i64)) (hown : w.ownsRow base e 1 v n xs) (h0 : 0 < k) (h63 : n + k ≤ maxLen) (hbytes : (n + k) * 8 ≤ 140737488355328) (hbase : base ≤ w.heap.size) :
    ∃ v' w', (Builtin.append_ #[t, tn] ty #[v, .int .i64 k]).run P w = .ok v' w' ∧ w'.ownsRow base e 1 v' (n + k) (xs ++ ints (List.replicate k 0)) ∧ w.grownBy w' v.ownBlock := by
  obtain ⟨i, hi, hz0, hz1, hz2⟩ := info_parts hE.hi
  have ht := hE.ht
  have hlen : (xs ++ ints (List.replicate k 0)).length = (n + k) * 1 := by rw [List.length_append, hown.1]; simp [ints]
  have hk63 : (k : Int) ≤ 9223372036854775807 := by simp only [maxLen] at h63; omega
  have grown : ∀ (old : Nat), old < n + k → ∀ (row : Option Nat),
      (w.drew.alloc (.cells (xs.toArray ++ Builtin.zeroCells (Value.int .i64 0).cells k ++ Builtin.zeroCells (Value.int .i64 0).cells (grownCap w (n + k) old e - (n + k))) e)).ownsRow base e 1
        (.slice (some ⟨w.heap.size, 0, none⟩) (n + k) (grownCap w (n + k) old e)) (n + k) (xs ++ ints (List.replicate k 0)) ∧
      w.grownBy (w.drew.alloc (.cells (xs.toArray ++ Builtin.zeroCells (Value.int .i64 0).cells k ++ Builtin.zeroCells (Value.int .i64 0).cells (grownCap w (n + k) old e - (n + k))) e)) row := by
    intro old ho row
    have hge := grownCap_ge w (n + k) old e
    have hcm : grownCap w (n + k) old e ≤ maxLen := grownCap_le_maxLen w (n + k) old e h63
    refine ⟨⟨hlen, .inr ⟨w.heap.size, _, _, rfl, hbase, heap_alloc_new w.drew _, hge, hcm, ?_, ?_⟩⟩, ⟨rfl, rfl, rfl, by simp, fun j hj _ => heap_old (w := w.drew) hj⟩⟩
    · have h1 := hown.1
      simp [Builtin.zeroCells, Value.cells, h1]
      omega
    · rw [zeroCells_ints, zeroCells_ints]
      simp only [Array.toList_append]
      rw [show (xs.toArray.toList ++ (ints (List.replicate k 0)).toArray.toList) = xs ++ ints (List.replicate k 0) by simp, ← hlen]
      exact List.take_left
  rcases hown.2 with ⟨rfl, rfl⟩ | ⟨g, cap, cur, rfl, hbg, hg, hnc, hcm, hcs, htake⟩
  · have hx : xs = [] := List.eq_nil_of_length_eq_zero (by simpa using hown.1)
    subst hx
    have hr := Lib.run_append_nil_zeros (P := P) w t tn ty e i (.int .i64 0) .i64 .i64 ht htn hi hz0 k h0 (by omega) hk63 (by rw [hz2]; omega)
    have hgr := grown 0 (by omega) (Value.ownBlock (.slice none 0 0))
    simp only [Nat.zero_add, List.nil_append, Array.empty_append] at hgr ⊢
    exact ⟨_, _, hr, hgr.1, hgr.2⟩
  · by_cases hroom : n + k ≤ cap
    · have hw : IntKind.i64.wrap (k : Int) = k := by rw [IntKind.wrap_i64]; omega
      have hneg : ¬ ((k : Int) < 0) := by omega
      have h48i : ¬ (281474976710656 < (k : Int) * 8) := by omega
      have hk0 : ¬ (k = 0) := by omega
      have hst := run_storeCells_at P g n e (ints (List.replicate k 0)) 0 cur w hg (by simp [ints]; omega) (by intro u hu; obtain ⟨x, _, rfl⟩ := List.mem_map.1 hu; rfl)
      simp only [Nat.add_zero] at hst
      have hr : (Builtin.append_ #[t, tn] ty #[.slice (some ⟨g, 0, none⟩) n cap, .int .i64 k]).run P w = .ok (.slice (some ⟨g, 0, none⟩) (n + k) cap) (w.setRow g (cur.toList.take n ++ ints (List.replicate k 0) ++ cur.toList.drop (n + (ints (List.replicate k 0)).length)).toArray) := by
        simp [Builtin.append_, run_underlying ht, run_underlying htn, sizeOf, typeInfo, zeroValue, hi, hz0, hz1, hz2, asInt, asIntOf, hw, hneg, h48i, hk0, hroom, Addr.add_lit, zeroCells_ints, hst]
      refine ⟨_, _, hr, ⟨hlen, .inr ⟨g, cap, _, rfl, hbg, setRow_heap w g cur _ e _ hg, hroom, hcm, ?_, ?_⟩⟩, ⟨rfl, rfl, rfl, by simp, fun j _ hj => setRow_other w g j _ (fun e => hj (by simp [Value.ownBlock, e]))⟩⟩
      · simp only [List.size_toArray, List.length_append, List.length_take, List.length_drop, Array.length_toList, ints, List.length_map, List.length_replicate]
        omega
      · have hn1 : cur.toList.take n = xs := by simpa using htake
        rw [hn1, ← hlen]
        exact List.take_left
    · have hold : (Builtin.firstCells i.size n (.slice (some ⟨g, 0, none⟩) n cap)).run P w.drew = .ok xs.toArray w.drew := by
        have holds : ∀ j u, xs[j]? = some u → w.drew.cell? ((⟨g, 0, none⟩ : Addr).add j) = some u := fun j u h => by
          have := hown.cells (g := g) rfl j u h
          exact this
        rw [hz1]
        exact run_firstCells_some (P := P) w.drew 1 n ⟨g, 0, none⟩ n cap xs (by simpa using hown.1) holds
      have hr := Lib.run_append_grow_zeros (P := P) w t tn ty e i (.int .i64 0) .i64 .i64 ht htn hi hz0 (some ⟨g, 0, none⟩) n cap xs hold k h0 (by omega) (by omega) (by simp only [maxLen] at h63; omega) (by rw [hz2]; omega) (by rw [hz2]; exact growslice_fits (by omega) hbytes)
      have hgr := grown cap (by omega) (Value.ownBlock (.slice (some ⟨g, 0, none⟩) n cap))
      exact ⟨_, _, hr, hgr.1, hgr.2⟩
end

/-- a row of numbers that grows while bytes are read -/
structure MvSt (R : RdEnv) (w : World) (p : Nat) (xs : List Int) (v : Value) (wr : World) : Prop where
  rd : RdAt R p wr
  turn : Turn (· = R.g) (· = R.g) w wr
  own : wr.ownsRow w.heap.size 3 1 v xs.length (ints xs)
  glt : R.g < w.heap.size
  bw : R.B ≤ w.heap.size
section
variable {R : RdEnv} {w wr w2 : World} {v : Value} {p : Nat} {xs : List Int}
theorem MvSt.step (h : MvSt R w p xs v wr) {p2 : Nat} (rd : RdAt R p2 w2) (t : Turn (· = R.g) (· = R.g) wr w2) : MvSt R w p2 xs v w2 :=
  ⟨rd, h.turn.trans t, ownsRow_block h.own (fun i hi => t.block i (h.own.lt i hi).2 (fun e => by have := (h.own.lt i hi).1; have := h.glt; omega)), h.glt, h.bw⟩
theorem MvSt.grow (h : MvSt R w p xs v wr) {v' : Value} {ys : List Int} (hg : wr.grownBy w2 v.ownBlock) (ho : w2.ownsRow w.heap.size 3 1 v' (xs.length + ys.length) (ints xs ++ ints ys)) : MvSt R w p (xs ++ ys) v' w2 := by
  have hlt := h.own.lt
  have hz : w.heap.size ≤ wr.heap.size := h.turn.size
  have hb : Below w.heap.size wr w2 := (Below.refl w.heap.size wr).grown hg hz (fun k hk => (hlt k hk).1)
  refine ⟨⟨(hb.block _ h.glt).trans h.rd.blk, h.rd.below.trans (hb.mono h.bw), Nat.le_trans h.rd.size hb.size⟩, ?_, ?_, h.glt, h.bw⟩
  · exact ⟨hb.os.trans h.turn.os, hb.tape.trans h.turn.tape, hb.output.trans h.turn.output, Nat.le_trans hz hb.size, fun i hi hF => (hb.block i hi).trans (h.turn.block i hi hF), h.turn.fresh⟩
  · simpa [ints_append, ints] using ho
theorem MvSt.alloc (h : MvSt R w p xs v wr) (o : Obj) : MvSt R w p xs v (wr.alloc o) :=
  h.step (h.rd.up (below_al (Below.refl _ _) o)) ((Turn.refl _ _).alloc o)
end

set_option maxHeartbeats 4000000 in
theorem l91Moves_calls (R : RdEnv) (hR : R.Good) (p : Nat) (hp : p + 100 ≤ 1000000) (w : World) (h : RdAt R p w) :
    Calls Try.prog 103 #[.pointer (some ⟨R.g, 0, none⟩)] w (DrawIn R p 100 84 w) := by
  have hs : MvSt R w p [] (.slice (some ⟨w.heap.size, 0, none⟩) 0 0) (w.alloc (.cells #[] 3 (0, 0))) :=
    ⟨h.up (below_al (Below.refl _ _) _), (Turn.refl _ _).alloc _, by simpa [ints] using World.ownsRow_made (base := w.heap.size) w #[] 0 (by simp) (by simp [maxLen]) rfl, block_lt h.blk, h.size⟩
  have h1 := pick_calls R hR p (by omega) 25 _ hs.rd
  replace h1 := Lib.hid h1
  replace hs := Lib.hid hs
  clear h
  go_enter Try.func103, Try.ntmps103
  go_wp2_with fail
  refine h1.out.mono ?_
  rintro e w1 ⟨k, rfl, hk0, hk1, hr, ht⟩
  obtain ⟨q, rfl⟩ := Int.eq_ofNat_of_zero_le hk0
  have hq3 : q < 25 := by omega
  have hs1 := hs.out.step hr ht
  replace hs1 := Lib.hid hs1
  clear h1 hs hr ht hk1 hk0
  go_wp2_with fail
  go_loopw [3, 4] (fun o i wr => ∃ (t : Nat) (xs : List Int) (p2 : Nat), t ≤ 24 ∧ xs.length + t ≤ 24 ∧ p2 + t ≤ p + 25 ∧ p ≤ p2 ∧ i = .int .i64 t ∧ Hid (MvSt R w p2 xs o wr)) (fun _ i _ => (intOf i).toNat)
  case atStart => exact ⟨q, [], p + 1, by omega, by simp; omega, by omega, by omega, by go_num, hs1⟩
  case round =>
    obtain ⟨t, xs, p2, ht3, hlen, hp2, hpp, rfl, hL⟩ := hrel
    by_cases hgo : 0 < t
    · have hc := pick_calls R hR p2 (by omega) 7 wr hL.out.rd
      have hwz := hL.out.turn.size
      replace hc := Lib.hid hc
      go_wp2_with fail
      trace_state
      refine hc.out.mono ?_
      rintro e w2 ⟨x, rfl, hx0, hx1, hr2, ht2⟩
      have hL2 := hL.out.step hr2 ht2
      clear hc hr2 ht2 hL
      replace hL2 := Lib.hid hL2
      go_wp2_with (at_builtin; go_loud (with_reducible refine wpList_app1 (by rfl) (.tmp 12) (.tmp 16) 26 (by rfl) intTy w.heap.size u3 xs.length (ints xs) (by with_unfolding_all rfl) (hL2.out.own.alloc _) w2.heap.size 1 [.int .i64 _] (by with_unfolding_all rfl) (by with_unfolding_all rfl) ⟨_, _, heap_alloc_new w2 _, rfl⟩ (one_int _ _) ?_ ?_ ?_ ?_))
      · unfold maxLen; omega
      · omega
      · have := hL2.out.turn.size; simp; omega
      intro g cap w4 hown hgrow hat
      have hL4 := (hL2.out.alloc _).grow (v' := .slice (some ⟨g, 0, none⟩) (xs.length + 1) cap) (ys := [_]) hgrow hown
      replace hL4 := Lib.hid hL4
      clear hown hgrow hat hL2
      go_wp2_with fail
      go_roundw
      case rel => exact ⟨t - 1, _, p2 + 1, by omega, by simp; omega, by omega, by omega, by go_num, hL4⟩
      case measure => simp [intOf]; omega
    · have hc := pick_calls R hR p2 (by omega) 40 wr hL.out.rd
      replace hc := Lib.hid hc
      go_wp2_with fail
      refine hc.out.mono ?_
      rintro e w2 ⟨x, rfl, hx0, hx1, hr2, ht2⟩
      have hL2 := hL.out.step hr2 ht2
      clear hc hr2 ht2 hL
      replace hL2 := Lib.hid hL2
      by_cases hx : x = 0
      · subst hx
        obtain ⟨v', w3, hrun, hown, hgrow⟩ := run_appZ (P := Try.prog) (t := 26) (e := 3) (tn := 3) 26 60 intTy Try.underlying3 hL2.out.own (by omega) (by unfold maxLen; omega) (by omega) hL2.out.turn.size
        have hL3 := hL2.out.grow hgrow (ys := List.replicate 60 0) (by simpa using hown)
        replace hL3 := Lib.hid hL3
        clear hown hgrow hL2
        rw [show ((60 : Nat) : Int) = 60 from rfl] at hrun
        replace hrun := Lib.hid hrun
        go_wp2_with (at_builtin; with_reducible refine Lib.wpList_append_run _ (by rfl) (.tmp 21) (.const (.int .i64 60)) _ _ (by rfl) _ _ (by with_unfolding_all rfl) (by with_unfolding_all rfl) _ _ hrun.out ?_)
        go_ret
        exact ⟨p2 + 1, xs ++ List.replicate 60 0, v', rfl, by simp; omega, by omega, by omega, hL3.out.rd, hL3.out.turn, hL3.out.own⟩
      · have hx' : (x == 0) = false := by simp [hx]
        go_wp2_with fail
        go_ret
        exact ⟨p2 + 1, xs, u3, rfl, by omega, by omega, by omega, hL2.out.rd, hL2.out.turn, hL2.out.own⟩
end Go.Proofs.Ytpccgdkidnkppaa

set_option linter.unusedVariables false
set_option linter.unusedSimpArgs false
namespace Go.Proofs.Ytpccgdkidnkppaa
open Go Go.RowKit

theorem rowq {w : World} {B : Nat} {e : TypeId} {v : Value} {xs : List Int} (ho : w.ownsRow B e 1 v xs.length (ints xs)) {q : Nat} (hq : q < xs.length) : ∃ g c, v = .slice (some ⟨g, 0, none⟩) xs.length c ∧ (∃ u, w.cell? ⟨g, q, none⟩ = some u) ∧ w.frozen? ⟨g, q, none⟩ = false ∧ g < w.heap.size ∧ B ≤ g ∧ xs.length ≤ c ∧ c ≤ maxLen := by
  obtain ⟨h1, ⟨rfl, h0⟩ | ⟨g, cap, cur, rfl, hb, hg, hn, hc, hs, ht⟩⟩ := ho
  · omega
  · refine ⟨g, cap, rfl, ⟨cur[q]'(by omega), ?_⟩, frozenm hg q, block_lt hg, hb, hn, hc⟩
    rw [cellm hg]
    simp

set_option maxHeartbeats 2000000 in
theorem l91More_calls (R : RdEnv) (hR : R.Good) (p : Nat) (hp : p + 100 ≤ 1000000) (Ai : Option Addr) (ci : Nat) (xs : List Int) (w : World) (h : RdAt R p w) (hl : xs.length ≤ 100) (hi : IntsAt w.heap.size w Ai xs) :
    Calls Try.prog 156 #[.pointer (some ⟨R.g, 0, none⟩), .slice Ai xs.length ci] w (DrawIn R p 7 xs.length w) := by
  have hal := below_al (Below.refl w.heap.size w) (.cells #[] 3 (0, 0))
  have hs : MvSt R w p [] (.slice (some ⟨w.heap.size, 0, none⟩) 0 0) (w.alloc (.cells #[] 3 (0, 0))) :=
    ⟨h.up (below_al (Below.refl _ _) _), (Turn.refl _ _).alloc _, by simpa [ints] using World.ownsRow_made (base := w.heap.size) w #[] 0 (by simp) (by simp [maxLen]) rfl, block_lt h.blk, h.size⟩
  replace hs := Lib.hid hs
  replace hi := Lib.hid hi
  replace hal := Lib.hid hal
  clear h
  go_enter Try.func156, Try.ntmps156
  go_wp2_with (at_builtin; go_loud (with_reducible refine wpList_appI (by rfl) (.tmp 7) (.tmp 8) (t := 26) (by rfl) intTy (by with_unfolding_all rfl) hs.out.own (by with_unfolding_all rfl) hi.out hal.out hal.out.size ?_ ?_ ?_ ?_))
  · unfold maxLen; simp; omega
  · simp; omega
  · exact hal.out.size
  intro v' w1 hown hgrow hat
  have hs1 := hs.out.grow hgrow (ys := xs) (by simpa using hown)
  rw [List.nil_append] at hs1
  have h1 := pick_calls R hR p (by omega) 3 _ hs1.rd
  replace h1 := Lib.hid h1
  replace hs1 := Lib.hid hs1
  clear hown hgrow hat hs hi hal
  go_wp2_with fail
  refine h1.out.mono ?_
  rintro e w2 ⟨k, rfl, hk0, hk1, hr, ht⟩
  obtain ⟨q, rfl⟩ := Int.eq_ofNat_of_zero_le hk0
  have hq3 : q < 3 := by omega
  have hs2 := hs1.out.step hr ht
  replace hs2 := Lib.hid hs2
  clear h1 hs1 hr ht hk1 hk0
  go_wp2_with fail
  obtain ⟨Ao, co, rfl, -⟩ := ownsRow_cells hs2.out.own
  go_loopw [6] (fun i wr => ∃ (t : Nat) (ys : List Int) (p2 : Nat), t ≤ 2 ∧ ys.length = xs.length ∧ p2 + 2 * t ≤ p + 5 ∧ p ≤ p2 ∧ i = .int .i64 t ∧ Hid (MvSt R w p2 ys (.slice Ao xs.length co) wr)) (fun i _ => (intOf i).toNat)
  case atStart => exact ⟨q, xs, p + 1, by omega, rfl, by omega, by omega, by go_num, hs2⟩
  case round =>
    obtain ⟨t, ys, p2, ht3, hlen, hp2, hpp, rfl, hL⟩ := hrel
    by_cases hgo : 0 < t ∧ 0 < xs.length
    · obtain ⟨ht0, hx00⟩ := hgo
      have hy0 : 0 < ys.length := by omega
      have hc := pick_calls R hR p2 (by omega) xs.length wr hL.out.rd
      obtain ⟨g, cy, e0, -, -, hglt, hgb, hyc, hym⟩ := rowq hL.out.own hy0
      rw [hlen] at e0
      cases e0
      replace hc := Lib.hid hc
      unfold maxLen at hym
      replace hlen := Lib.hid hlen
      go_wp2_with fail
      refine hc.out.mono ?_
      rintro e w3 ⟨x, rfl, hx0, hx1, hr3, ht3'⟩
      obtain ⟨q3, rfl⟩ := Int.eq_ofNat_of_zero_le hx0
      have hq3' : q3 < ys.length := by have := hlen.out; omega
      have hq3x : q3 < xs.length := by omega
      have hL3 := hL.out.step hr3 ht3'
      have hc3 := pick_calls R hR (p2 + 1) (by omega) 4 w3 hL3.rd
      replace hc3 := Lib.hid hc3
      replace hL3 := Lib.hid hL3
      clear hc hr3 ht3' hL
      go_wp2_with fail
      refine hc3.out.mono ?_
      rintro e w4 ⟨x4, rfl, hx40, hx41, hr4, ht4⟩
      have hL4 := hL3.out.step hr4 ht4
      obtain ⟨g', cy', e1, ⟨u, hu⟩, hf, hgl4, -⟩ := rowq hL4.own hq3'
      rw [hlen.out] at e1
      cases e1
      have hL4o := hL4.own
      rw [← hlen.out] at hL4o
      have hset := ownsRow_set hL4o q3 (.int .i64 x4) hq3'
      have hL5 : MvSt R w (p2 + 1 + 1) (ys.set q3 x4) (.slice (some ⟨g, 0, none⟩) xs.length co) (w4.setCell ⟨g, q3, none⟩ (.int .i64 x4)) := by
        have hwz := hL4.turn.size
        have hgw := (hL4.own.lt g rfl).1
        have hb : Below w.heap.size w4 (w4.setCell ⟨g, q3, none⟩ (.int .i64 x4)) := (Below.refl _ _).setCell (p := ⟨g, q3, none⟩) hgw _
        refine ⟨⟨(hb.block _ hL4.glt).trans hL4.rd.blk, hL4.rd.below.trans (hb.mono hL4.bw), Nat.le_trans hL4.rd.size hb.size⟩, ?_, ?_, hL4.glt, hL4.bw⟩
        · exact ⟨hb.os.trans hL4.turn.os, hb.tape.trans hL4.turn.tape, hb.output.trans hL4.turn.output, Nat.le_trans hwz hb.size, fun i hi hF => (hb.block i hi).trans (hL4.turn.block i hi hF), hL4.turn.fresh⟩
        · rw [← hlen.out]; simpa [ints, List.map_set] using hset
      replace hL5 := Lib.hid hL5
      clear hset hL4 hL4o hL3 hc3 hr4 ht4
      go_wp2_with fail
      go_roundw
      case rel => exact ⟨t - 1, ys.set q3 x4, p2 + 1 + 1, by omega, by have := hlen.out; simp [this], by omega, by omega, by go_num, by simpa using hL5⟩
      case measure => simp [intOf]; omega
    · have hcase : (¬ 0 < t) ∨ (0 < t ∧ xs.length = 0) := by omega
      rcases hcase with hq1 | ⟨hq1, hq2⟩
      · replace hlen := Lib.hid hlen
        clear hgo
        go_wp2_with fail
        go_ret
        exact ⟨p2, ys, _, rfl, by have := hlen.out; omega, by omega, by omega, hL.out.rd, hL.out.turn, hL.out.own⟩
      · have hxs : xs = [] := List.eq_nil_of_length_eq_zero hq2
        subst hxs
        replace hlen := Lib.hid hlen
        clear hgo hq2
        go_wp2_with fail
        go_ret
        exact ⟨p2, ys, _, rfl, by have := hlen.out; omega, by omega, by omega, hL.out.rd, hL.out.turn, hL.out.own⟩
end Go.Proofs.Ytpccgdkidnkppaa
