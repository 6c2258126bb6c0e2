import Derived.Deep.RegionHeld3
import Derived.Test.YtpccgdkidnkppaaPk4FnExactRowNew
import Derived.Test.YtpccgdkidnkppaaPk8FnExactRowNew
import Derived.Test.YtpccgdkidnkppaaPk15FnExactRowNew
import Derived.Test.YtpccgdkidnkppaaPk18FnExactRowNew
set_option linter.unusedVariables false
set_option linter.unusedSimpArgs false
namespace Go.Proofs.Ytpccgdkidnkppaa
open Go Go.RowKit

theorem rowNew_bad (Am At Ao : Option Addr) (cm ct co : Nat) (made : List Bool) (tasks : List Task) (l : List Ordr) (B : Nat) (w0 w : World) (hb : Below B w0 w) (hB : B ≤ w.heap.size) (hs : SheetAt B w0 Am cm At ct made tasks) (hl : l.length ≤ maxLen) (hx : OrdsAt B w0 Ao l) (hok : rowOkP made tasks l = false) :
    Calls Try.prog 34 #[.agg #[.slice Am made.length cm, .slice At tasks.length ct], .slice Ao l.length co] w (fun e w' => GivesRR ([], false) e w w') := by
  have hal := below_al (Below.refl w.heap.size w) (.cells #[.slice Am made.length cm, .slice At tasks.length ct] 31 (0, 0))
  have k0 := rowOk_calls Am At Ao cm ct co made tasks l B w0 _ (below_up' hb hB hal) (Nat.le_trans hB hal.size) hs hl hx
  rw [hok] at k0
  replace k0 := Lib.hid k0
  replace hal := Lib.hid hal
  clear hs hok hl hx hb
  go_enter Try.func34, Try.ntmps34
  go_wp2_with fail
  refine k0.out.mono ?_
  rintro e w1 ⟨rfl, h1⟩
  have b1 := hal.out.trans (h1.mono hal.out.size)
  replace b1 := Lib.hid b1
  clear h1 k0 hal
  go_wp2_with fail
  go_ret2
  exact ⟨_, [], rfl, OwnRR.nil _ (World.ownsRow_nil _ _ _ _) (fun g e => by cases e), b1.out⟩

theorem specRowNew_bad (Am At Ao : Option Addr) (cm ct co : Nat) (made : List Bool) (tasks : List Task) (l : List Ordr) (B : Nat) (w0 w : World) (hb : Below B w0 w) (hB : B ≤ w.heap.size) (hs : SheetAt B w0 Am cm At ct made tasks) (hnod : ∀ T ∈ tasks, nodes T ≤ 1000000000) (hml : (made.length : Int) ≤ 9223372036854775807) (hl : l.length ≤ maxLen) (hx : OrdsAt B w0 Ao l) (hok : rowOkP made tasks l = false) :
    Calls Try.prog 35 #[.agg #[.slice Am made.length cm, .slice At tasks.length ct], .slice Ao l.length co] w (fun e w' => GivesRR ([], false) e w w') := by
  have hal := below_al (below_al (Below.refl w.heap.size w) (.cells #[.slice Am made.length cm, .slice At tasks.length ct] 31 (0, 0))) (.cells #[] 26 (0, 0))
  have k0 := specRowOk_calls Am At Ao cm ct co made tasks l B w0 _ (below_up' hb hB hal) (Nat.le_trans hB hal.size) hs hnod hml hl hx
  have hm : ((w.alloc (.cells #[.slice Am made.length cm, .slice At tasks.length ct] 31 (0, 0))).alloc (.cells #[] 26 (0, 0))).ownsRow w.heap.size 26 1 (.slice (some ⟨w.heap.size + 1, 0, none⟩) 0 0) 0 [] := by
    simpa using World.ownsRow_made (base := w.heap.size) (e := 26) (w.alloc (.cells #[.slice Am made.length cm, .slice At tasks.length ct] 31 (0, 0))) #[] 0 (by simp) (by simp [maxLen]) rfl
  rw [hok] at k0
  replace k0 := Lib.hid k0
  replace hal := Lib.hid hal
  replace hm := Lib.hid hm
  clear hs hok hl hx hb hnod hml
  go_enter Try.func35, Try.ntmps35
  go_wp2_with fail
  refine k0.out.mono ?_
  rintro e w1 ⟨rfl, h1⟩
  have b1 := hal.out.trans (h1.mono hal.out.size)
  have hm1 := ownsRow_block (w' := w1) hm.out (fun i hi => h1.block i ((hm.out.lt i hi).2))
  have hg1 : ∀ g : Nat, (Value.slice (some ⟨w.heap.size + 1, 0, none⟩) 0 0).ownBlock = some g → g < w1.heap.size := fun g e => by have := (hm1.lt g e).2; exact this
  replace b1 := Lib.hid b1
  replace hm1 := Lib.hid hm1
  replace hg1 := Lib.hid hg1
  clear h1 k0 hal hm
  go_wp2_with fail
  go_ret2
  exact ⟨_, [], rfl, OwnRR.nil _ hm1.out hg1.out, b1.out⟩

set_option maxHeartbeats 4000000 in
theorem specRowNew_good (Am At Ao : Option Addr) (cm ct co : Nat) (made : List Bool) (tks : List Tk) (l : List Ordr) (B : Nat) (w0 w : World) (hb : Below B w0 w) (hB : B ≤ w.heap.size) (hs : SheetAt B w0 Am cm At ct made (tks.map Tk.enc)) (hnod : ∀ T ∈ tks.map Tk.enc, nodes T ≤ 1000000000) (hl : l.length ≤ maxLen) (hx : OrdsAt B w0 Ao l) (hfit : RowFit made tks l) (hkb : ∀ x ∈ l, x.2.length ≤ 1048576) (hml : (made.length : Int) ≤ 9223372036854775807) (hok : rowOkP made (tks.map Tk.enc) l = true) :
    Calls Try.prog 35 #[.agg #[.slice Am made.length cm, .slice At tks.length ct], .slice Ao l.length co] w (fun e w' => GivesRR (l.map (newP made tks), true) e w w') := by
  have h6 := hfit.six
  have hal := below_al (below_al (Below.refl w.heap.size w) (.cells #[.slice Am made.length cm, .slice At tks.length ct] 31 (0, 0))) (.cells #[] 26 (0, 0))
  have k0 := specRowOk_calls Am At Ao cm ct co made (tks.map Tk.enc) l B w0 _ (below_up' hb hB hal) (Nat.le_trans hB hal.size) hs hnod hml hl hx
  have hm : ((w.alloc (.cells #[.slice Am made.length cm, .slice At tks.length ct] 31 (0, 0))).alloc (.cells #[] 26 (0, 0))).ownsRow (w.heap.size + 1) 26 1 (.slice (some ⟨w.heap.size + 1, 0, none⟩) 0 0) 0 [] := by
    simpa using World.ownsRow_made (base := w.heap.size + 1) (e := 26) (w.alloc (.cells #[.slice Am made.length cm, .slice At tks.length ct] 31 (0, 0))) #[] 0 (by simp) (by simp [maxLen]) rfl
  rw [hok] at k0
  simp only [List.length_map] at k0
  have hG : ∀ x ∈ l, ∀ Ai ci Ak ck, OrdIs B w0 Ai ci Ak ck x → ∀ k, k ∈ x.2 → ∀ w2, Below w.heap.size w w2 → Calls Try.prog 95 #[.agg #[.slice Am made.length cm, .slice At tks.length ct], .slice Ai x.1.length ci, .int .i64 k] w2 fun e w' =>
      e = .returned (.tuple #[.int .i64 (specKeyP ⟨made, tks, x.1⟩ k).1, .bool true]) ∧ Below w2.heap.size w2 w' := fun x hxl Ai ci Ak ck h k hk w2 hw2 => by
    have hkr := keysOk_iff.1 (hfit.keys x hxl) k hk
    have := specBuildKey_good ⟨Am, cm, At, ct, Ai, ci, B, w0⟩ ⟨made, tks, x.1⟩ ⟨hs, h.ia, h.il, h.im, hfit.ok x hxl⟩ hnod k w2 (below_up' hb hB hw2) (Nat.le_trans hB hw2.size) hkr.1 hkr.2
    rw [safe_all (hfit.ok x hxl) hfit.safe k] at this
    exact this
  replace hG := Lib.hid hG
  replace hkb := Lib.hid hkb
  replace k0 := Lib.hid k0
  replace hal := Lib.hid hal
  replace hb := Lib.hid hb
  replace hx := Lib.hid hx
  replace hm := Lib.hid hm
  clear hs hok hl hnod hfit hml
  go_enter Try.func35, Try.ntmps35
  go_wp2_with fail
  refine k0.out.mono ?_
  rintro e w1 ⟨rfl, h1⟩
  have z1 := h1.size
  simp at z1
  have x0 : w1.cell? ⟨w.heap.size, 0, none⟩ = some (.slice Am made.length cm) := (h1.cell (p := ⟨w.heap.size, 0, none⟩) (by simp; omega)).trans ((cell_al (by simp)).trans (cellm (heap_alloc_new w _) 0))
  have x1 : w1.cell? ⟨w.heap.size, 1, none⟩ = some (.slice At tks.length ct) := (h1.cell (p := ⟨w.heap.size, 1, none⟩) (by simp; omega)).trans ((cell_al (by simp)).trans (cellm (heap_alloc_new w _) 1))
  have b1 := hal.out.trans (h1.mono hal.out.size)
  have hs0 : w.heap.size < w1.heap.size := by omega
  have hm1 := ownsRow_block (w' := w1) hm.out (fun i hi => h1.block i ((hm.out.lt i hi).2))
  have hg1 : ∀ g : Nat, (Value.slice (some ⟨w.heap.size + 1, 0, none⟩) 0 0).ownBlock = some g → g < w1.heap.size := fun g e => by have := (hm1.lt g e).2; exact this
  replace b1 := Lib.hid b1
  replace hm1 := Lib.hid hm1
  replace hg1 := Lib.hid hg1
  clear h1 k0 hal hm
  go_wp2_with fail
  go_loopw [6, 7, 8, 9, 10, 11] (fun o i _ _ _ _ wr => ∃ (j : Nat) (vs : List Value), j ≤ l.length ∧ i = .int .i64 j ∧ Hid (OwnRR (w.heap.size + 1) wr.heap.size wr o vs ((l.take j).map (newP made tks))) ∧ Hid (Below (w.heap.size + 1) w1 wr)) (fun _ i _ _ _ _ _ => l.length - (intOf i).toNat)
  case atStart => exact ⟨0, [], Nat.zero_le _, rfl, Lib.hid (OwnRR.nil _ hm1.out hg1.out), Lib.hid (Below.refl _ _)⟩
  case round =>
    obtain ⟨j, vs, hj, rfl, hO, hw⟩ := hrel
    obtain ⟨w9, hw9⟩ : ∃ w9, w9 = wr := ⟨_, rfl⟩
    subst hw9
    have hww9 := b1.out.trans (hw.out.mono (Nat.le_succ _))
    have z9 := hww9.size
    have z91 := hw.out.size
    have hs9 : w.heap.size < w9.heap.size := by omega
    have y0 := (hw.out.cell (p := ⟨w.heap.size, 0, none⟩) (Nat.lt_succ_self _)).trans x0
    have y1 := (hw.out.cell (p := ⟨w.heap.size, 1, none⟩) (Nat.lt_succ_self _)).trans x1
    replace hww9 := Lib.hid hww9
    by_cases hlt : j < l.length
    · obtain ⟨b, o, Ai, ci, Ak, ck, rfl, hbl, c1, c2, hoi⟩ := hx.out.at (below_up' hb.out hB hww9.out) (Nat.le_trans hB z9) j hlt
      have hxm := List.getElem_mem hlt
      have hgd := hG.out _ hxm Ai ci Ak ck hoi
      have hkl := hkb.out _ hxm
      have hal := below_al (Below.refl w9.heap.size w9) (.cells #[] 3 (0, 0))
      have hm9 : (w9.alloc (.cells #[] 3 (0, 0))).ownsRow w9.heap.size 3 1 (.slice (some ⟨w9.heap.size, 0, none⟩) 0 0) 0 (ints []) := by simpa [ints] using World.ownsRow_made (base := w9.heap.size) w9 #[] 0 (by simp) (by simp [maxLen]) rfl
      replace hoi := Lib.hid hoi
      replace hgd := Lib.hid hgd
      replace hal := Lib.hid hal
      replace hm9 := Lib.hid hm9
      replace hxm := Lib.hid hxm
      go_wp2_with fail
      go_loopw [8, 9, 10, 11] (fun o i _ _ wr => ∃ (q : Nat), q ≤ l[j].2.length ∧ i = .int .i64 q ∧ Hid (wr.ownsRow w9.heap.size 3 1 o q (ints ((l[j].2.take q).map fun k => (specKeyP ⟨made, tks, l[j].1⟩ k).1))) ∧ Hid (Below w9.heap.size w9 wr)) (fun _ i _ _ _ => l[j].2.length - (intOf i).toNat)
      case atStart => exact ⟨0, Nat.zero_le _, rfl, hm9, hal⟩
      case round =>
        obtain ⟨q, hq, rfl, hown, hw2⟩ := hrel
        obtain ⟨w3, hw3⟩ : ∃ w3, w3 = wr := ⟨_, rfl⟩
        subst hw3
        have hww := hww9.out.trans (hw2.out.mono z9)
        have hw1 := hw.out.trans (hw2.out.mono hs9)
        replace hw1 := Lib.hid hw1
        have z3 := hw2.out.size
        have hs3 : w.heap.size < w3.heap.size := by omega
        have hbl3 : b < w3.heap.size := by omega
        have v0 := (hw2.out.cell (p := ⟨w.heap.size, 0, none⟩) hs9).trans y0
        have v1 := (hw2.out.cell (p := ⟨w.heap.size, 1, none⟩) hs9).trans y1
        have d1 := (hw2.out.cell (p := ⟨b, o + j * 2, none⟩) hbl).trans c1
        have d2 := (hw2.out.cell (p := ⟨b, o + j * 2 + 1, none⟩) hbl).trans c2
        by_cases hlt2 : q < l[j].2.length
        · obtain ⟨bk, ok, rfl, hbk, ck0⟩ := hoi.out.ka.at (below_up' hb.out hB hww) (Nat.le_trans hB hww.size) q hlt2
          have hcl := hgd.out l[j].2[q] (List.getElem_mem _) w3.drew hww.drew
          have hbk3 : bk < w3.heap.size := by omega
          have hts := List.take_succ_eq_append_getElem hlt2
          obtain ⟨r, hr⟩ : ∃ r, (specKeyP ⟨made, tks, l[j].1⟩ l[j].2[q]).1 = r := ⟨_, rfl⟩
          rw [hr] at hcl
          replace hcl := Lib.hid hcl
          replace hr := Lib.hid hr
          replace hts := Lib.hid hts
          replace hww := Lib.hid hww
          go_wp2_with fail
          go_region_held3 (fun w' => w'.cell? ⟨w.heap.size, 0, none⟩ = some (.slice Am made.length cm) ∧ w'.cell? ⟨w.heap.size, 1, none⟩ = some (.slice At tks.length ct) ∧ w'.cell? ⟨b, o + j * 2, none⟩ = some (.slice Ai l[j].1.length ci) ∧ w'.cell? ⟨b, o + j * 2 + 1, none⟩ = some (.slice (some ⟨bk, ok, none⟩) l[j].2.length ck) ∧ w'.cell? ⟨bk, ok + q, none⟩ = some (.int .i64 l[j].2[q])) (first | exact ⟨l1, l2, l3, l4, l5⟩ | exact ⟨v0, v1, d1, d2, ck0⟩)
            (first | (go_at_call 95; refine hcl.out.mono ?_; rintro e w10 ⟨rfl, h10⟩; have l1 := kept_cell h10 hs3 v0; have l2 := kept_cell h10 hs3 v1; have l3 := kept_cell h10 hbl3 d1; have l4 := kept_cell h10 hbl3 d2; have l5 := kept_cell h10 hbk3 ck0))
          all_goals
            have hw10 := hw2.out.drew.trans (h10.mono hw2.out.size)
            have hown10 := ownsRow_block (w' := w10) hown.out (fun i hi => h10.block i (hown.out.lt i hi).2)
            replace hw10 := Lib.hid hw10
            replace hown10 := Lib.hid hown10
            clear h10 l1 l2 l3 l4 l5 v0 v1 d1 d2 ck0
            go_wp2_with (at_builtin; go_loud (with_reducible refine wpList_app1 (by rfl) (.tmp 53) (.tmp 55) 26 (by rfl) intTy w9.heap.size u8 q (ints ((l[j].2.take q).map fun k => (specKeyP ⟨made, tks, l[j].1⟩ k).1)) (by with_unfolding_all rfl) (hown10.out.alloc _) w10.heap.size 1 [.int .i64 r] (by with_unfolding_all rfl) (by with_unfolding_all rfl) ⟨_, _, heap_alloc_new w10 _, rfl⟩ (one_int _ _) ?_ ?_ ?_ ?_))
            · unfold maxLen; omega
            · omega
            · have := hw10.out.size; simp; omega
            intro g cap w7 hown7 hgrow7 hat7
            have hw7 := (hw10.out.alloc hw10.out.size _).grown hgrow7 (by have := hw10.out.size; simp; omega) (fun i hi => (hown10.out.lt i hi).1)
            have hown7' : w7.ownsRow w9.heap.size 3 1 (.slice (some ⟨g, 0, none⟩) (q + 1) cap) (q + 1) (ints ((l[j].2.take (q + 1)).map fun k => (specKeyP ⟨made, tks, l[j].1⟩ k).1)) := by
              rw [hts.out, List.map_append, ints_append]
              simp only [List.map_cons, List.map_nil, hr.out]
              rw [← List.map_take] at hown7
              exact hown7
            replace hw7 := Lib.hid hw7
            replace hown7' := Lib.hid hown7'
            clear hown7 hgrow7 hat7
            go_wp2_with fail
            go_roundw
            case rel => exact ⟨q + 1, by omega, by go_num, hown7', hw7⟩
            case measure => simp [intOf]; omega
        · have hd : l[j].2.take q = l[j].2 := List.take_of_length_le (by omega)
          have hown9 := hown.out
          rw [hd] at hown9
          have hql : q = (newP made tks l[j]).length := by simp [newP]; omega
          have hown9' : w3.ownsRow w9.heap.size 3 1 u8 (newP made tks l[j]).length (ints (newP made tks l[j])) := by rw [← hql]; exact hown9
          obtain ⟨Al, cl, rfl, -⟩ := ownsRow_cells hown9'
          have hO2 := (hO.out.up hw2.out (Nat.le_refl _))
          have hz2 := hw2.out.size
          have hlj : ((l.take j).map (newP made tks)).length = j := by simp; omega
          have hal2 : (w3.alloc (.cells #[.slice Al (newP made tks l[j]).length cl] 26 (0, 0))).ownsRow (w.heap.size + 1) 26 1 u6 j vs := by have := hO2.out.alloc (.cells #[.slice Al (newP made tks l[j]).length cl] 26 (0, 0)); rw [hlj] at this; exact this
          replace hal2 := Lib.hid hal2
          replace hd := Lib.hid hd
          replace hown9' := Lib.hid hown9'
          replace hO2 := Lib.hid hO2
          replace hlj := Lib.hid hlj
          replace hql := Lib.hid hql
          clear hown hown9
          go_wp2_with (at_builtin; go_loud (with_reducible refine wpList_app1 (by rfl) (.tmp 57) (.tmp 59) 52 (by rfl) rowTy (w.heap.size + 1) u6 j vs (by with_unfolding_all rfl) hal2.out w3.heap.size 1 [.slice Al (newP made tks l[j]).length cl] (by with_unfolding_all rfl) (by with_unfolding_all rfl) ⟨_, _, heap_alloc_new w3 _, rfl⟩ ?_ ?_ ?_ ?_ ?_))
          · intro u hu; rw [List.mem_singleton.1 hu]; rfl
          · unfold maxLen; omega
          · omega
          · have := hw1.out.size; simp; omega
          intro g cap w7 hown7 hgrow7 hat7
          have hO7 := hO2.out.app hown9'.out hs9 hz2 hgrow7 (g := g) (cap := cap) (by rw [hlj.out]; exact hown7) (by simpa using hat7)
          have hts := List.take_succ_eq_append_getElem hlt
          have hmap : (l.take j).map (newP made tks) ++ [newP made tks l[j]] = (l.take (j + 1)).map (newP made tks) := by rw [hts, List.map_append]; rfl
          rw [hmap, hlj.out] at hO7
          have hw7 := (hw1.out.alloc (by have := hw1.out.size; omega) _).grown hgrow7 (by simp; omega) (fun i hi => (hO2.out.out.lt i hi).1)
          replace hO7 := Lib.hid hO7
          replace hts := Lib.hid hts
          replace hmap := Lib.hid hmap
          replace hw7 := Lib.hid hw7
          clear hown7 hgrow7 hat7
          go_wp2_with fail
          go_roundw
          case rel => exact ⟨j + 1, _, by omega, by go_num, hO7, hw7⟩
          case measure => simp [intOf]; omega
    · have hd : l.take j = l := List.take_of_length_le (by omega)
      have hO2 := hO.out
      rw [hd] at hO2
      replace hO2 := Lib.hid hO2
      replace hd := Lib.hid hd
      clear hO y0 y1
      go_wp2_with fail
      go_ret2
      exact ⟨_, _, rfl, hO2.out.lower (Nat.le_succ _), hww9.out⟩
end Go.Proofs.Ytpccgdkidnkppaa

set_option linter.unusedVariables false
set_option linter.unusedSimpArgs false
namespace Go.Proofs.Ytpccgdkidnkppaa
open Go Go.RowKit

def RowC (g : Nat) (made : List Bool) (tasks : List Task) (l : List Ordr) (R : List (List Int) × Bool) : Prop :=
  ∀ (w : World) (Am At : Option Addr) (cm ct : Nat) (Ao : Option Addr) (co : Nat) (B : Nat) (w0 : World), Below B w0 w → B ≤ w.heap.size → SheetAt B w0 Am cm At ct made tasks → OrdsAt B w0 Ao l → l.length ≤ co → co ≤ maxLen →
    Calls Try.prog g #[.agg #[.slice Am made.length cm, .slice At tasks.length ct], .slice Ao l.length co] w (fun e w' => GivesRR R e w w')
theorem rowFit_ok {made : List Bool} {tks : List Tk} {l : List Ordr} (h : RowFit made tks l) : rowOkP made (tks.map Tk.enc) l = true := by
  unfold rowOkP
  simp only [Bool.and_eq_true, decide_eq_true_eq, List.all_eq_true, fitO]
  exact ⟨⟨h.safe, h.six⟩, fun x hx => ⟨(h.ok x hx).takes, h.keys x hx⟩⟩
theorem rowNew_any (made : List Bool) (tasks : List Task) (l : List Ordr) (hnod : ∀ T ∈ tasks, nodes T ≤ 1000000000) (hml : (made.length : Int) ≤ 9223372036854775807) (hkb : ∀ x ∈ l, x.2.length ≤ 1048576) :
    ∃ R : List (List Int) × Bool, (R.2 = true → ∃ tks, tasks = tks.map Tk.enc ∧ RowFit made tks l ∧ R.1 = l.map (newP made tks)) ∧ (R.1.length ≤ 6 ∧ ∀ x ∈ R.1, x.length ≤ 1048576) ∧
      RowC 34 made tasks l R ∧ RowC 35 made tasks l R := by
  cases hok : rowOkP made tasks l with
  | true =>
    obtain ⟨tks, rfl, hfit⟩ := rowOk_fit hok
    refine ⟨(l.map (newP made tks), true), fun _ => ⟨tks, rfl, hfit, rfl⟩, ⟨by simpa using hfit.six, fun x hx => ?_⟩, fun w Am At cm ct Ao co B w0 hb hB hs hx hl hm => ?_, fun w Am At cm ct Ao co B w0 hb hB hs hx hl hm => ?_⟩
    · obtain ⟨y, hy, rfl⟩ := List.mem_map.1 hx
      simpa [newP] using hkb y hy
    · have := rowNew_good Am At Ao cm ct co made tks l B w0 w hb hB hs (Nat.le_trans hl hm) hx hfit hkb hok
      simp only [List.length_map] at this ⊢
      exact this
    · have := specRowNew_good Am At Ao cm ct co made tks l B w0 w hb hB hs hnod (Nat.le_trans hl hm) hx hfit hkb hml hok
      simp only [List.length_map] at this ⊢
      exact this
  | false =>
    refine ⟨([], false), fun h => (by cases h), ⟨by simp, fun x hx => (by cases hx)⟩, fun w Am At cm ct Ao co B w0 hb hB hs hx hl hm => ?_, fun w Am At cm ct Ao co B w0 hb hB hs hx hl hm => ?_⟩
    · exact rowNew_bad Am At Ao cm ct co made tasks l B w0 w hb hB hs (Nat.le_trans hl hm) hx hok
    · exact specRowNew_bad Am At Ao cm ct co made tasks l B w0 w hb hB hs hnod hml (Nat.le_trans hl hm) hx hok

theorem RowsAt.at {B : Nat} {w0 w : World} {A : Option Addr} {ll : List (List Int)} (h : RowsAt B w0 A ll) (hb : Below B w0 w) (hB : B ≤ w.heap.size) (i : Nat) (hi : i < ll.length) : ∃ (b o : Nat) (Ar : Option Addr) (cr : Nat), A = some ⟨b, o, none⟩ ∧ b < w.heap.size ∧ w.cell? ⟨b, o + i, none⟩ = some (.slice Ar ll[i].length cr) ∧ IntsAt w.heap.size w Ar ll[i] := by
  obtain ⟨b, o, Ar, cr, e, hlt, c1, c2, c3, c4⟩ := h i hi
  exact ⟨b, o, Ar, cr, e, by omega, (hb.cell (p := ⟨b, o + i, none⟩) hlt).trans c1, c4.up hb hB⟩

set_option maxHeartbeats 1000000 in
theorem brRows_calls (A : Option Addr) (c : Nat) (A2 : Option Addr) (c2 : Nat) (ll : List (List Int)) (w : World) (hx : RowsAt w.heap.size w A ll) (hy : RowsAt w.heap.size w A2 ll) (hl : ll.length ≤ 1048576) (hs : ∀ x ∈ ll, x.length ≤ 1048576) :
    Calls Try.prog 36 #[.slice A ll.length c, .slice A2 ll.length c2] w fun e w' => e = .returned (.bool true) ∧ Below w.heap.size w w' := by
  replace hx := Lib.hid hx
  replace hy := Lib.hid hy
  replace hs := Lib.hid hs
  go_enter Try.func36, Try.ntmps36
  go_wp2_with fail
  go_loopw [5] (fun i wr => ∃ (j : Nat), j ≤ ll.length ∧ i = .int .i64 j ∧ Hid (Below w.heap.size w wr)) (fun i _ => ll.length - (intOf i).toNat)
  case atStart => exact ⟨0, Nat.zero_le _, rfl, Lib.hid (Below.refl _ _)⟩
  case round =>
    obtain ⟨j, hj, rfl, hw⟩ := hrel
    obtain ⟨w9, hw9⟩ : ∃ w9, w9 = wr := ⟨_, rfl⟩
    subst hw9
    by_cases hlt : j < ll.length
    · obtain ⟨b, o, Ar, cr, rfl, hb, c1, hi1⟩ := hx.out.at hw.out hw.out.size j hlt
      obtain ⟨b2, o2, Ar2, cr2, rfl, hb2, c3, hi2⟩ := hy.out.at hw.out hw.out.size j hlt
      have hm := hs.out _ (List.getElem_mem hlt)
      have hk := brInts_calls Ar cr ll[j] Ar2 cr2 ll[j] w9.drew (hi1.up (Below.refl _ _).drew (Nat.le_refl _)) (hi2.up (Below.refl _ _).drew (Nat.le_refl _)) (by unfold maxLen; omega) (by unfold maxLen; omega)
      rw [decide_eq_true rfl] at hk
      replace hk := Lib.hid hk
      clear hi1 hi2
      go_wp2_with fail
      go_region_held3 (fun w' => w'.cell? ⟨b, o + j, none⟩ = some (.slice Ar ll[j].length cr) ∧ w'.cell? ⟨b2, o2 + j, none⟩ = some (.slice Ar2 ll[j].length cr2)) (first | exact ⟨l1, l2⟩ | exact ⟨c1, c3⟩)
        (first | (go_at_call 23; refine hk.out.mono ?_; rintro e w10 ⟨rfl, h10⟩; have l1 := kept_cell h10 hb c1; have l2 := kept_cell h10 hb2 c3))
      all_goals
        have hw10 := hw.out.drew.trans (h10.mono hw.out.size)
        replace hw10 := Lib.hid hw10
        clear h10 l1 l2 c1 c3
        go_wp2_with fail
        go_roundw
        case rel => exact ⟨j + 1, by omega, by go_num, hw10⟩
        case measure => simp [intOf]; omega
    · go_wp2_with fail
      go_ret
      exact ⟨rfl, hw.out⟩

/-- 'row[n-1:]' -/
theorem slice_last (g o n c : Nat) (hn : n + 1 ≤ c) (hm : c ≤ maxLen) : (∀ W, (Instr.slice 49 (.slice (some ⟨g, o, none⟩) (n + 1) c) (some (.int .i64 n)) none none).run Try.prog W = .ok (.slice (some ⟨g, o + n * 2, none⟩) 1 (c - n)) W) ∧
    (∀ W, (Instr.sliceAt 49 (.slice (some ⟨g, o, none⟩) (n + 1) c) (some (.int .i64 n)) none none).run Try.prog W = .ok (.slice (some ⟨g, o + n * 2, none⟩) 1 (c - n)) W) := by
  unfold maxLen at hm
  have hE : Try.prog.elem 49 = 116 := by simp [Program.elem, Try.underlying49]
  have ht : Try.prog.underlying 49 = some (.slice (Try.prog.elem 49)) := by rw [hE]; exact Try.underlying49
  have hz : ∀ W, (sizeOf 116).run Try.prog W = .ok 2 W := fun W => by kernel_rfl
  have h1 : ∀ W, (Instr.slice 49 (.slice (some ⟨g, o, none⟩) (n + 1) c) (some (.int .i64 n)) none none).run Try.prog W = .ok (.slice (some ⟨g, o + n * 2, none⟩) 1 (c - n)) W := fun W => by
    rw [run_slice_l W 49 _ _ _ ht .i64 n (by omega) (by omega), hE, hz]
    have h : ¬ c = n := by omega
    have h2 : n + 1 - n = 1 := by omega
    simp [Result.andThen, sliced, Addr.add, h, h2]
  exact ⟨h1, fun W => by rw [run_sliceAt_slice W _ _ _ _ _ ht]; exact h1 W⟩
end Go.Proofs.Ytpccgdkidnkppaa

set_option linter.unusedVariables false
set_option linter.unusedSimpArgs false
namespace Go.Proofs.Ytpccgdkidnkppaa
open Go Go.RowKit

theorem szIntS_calls (A : Option Addr) (n c : Nat) (l : Int) (w : World) (hn : n ≤ maxLen) (h0 : 0 ≤ l) (hl : l ≤ 1048576) :
    Calls Try.prog 140 #[.slice A n c, .int .i64 l] w (Sized l n w) := by
  unfold maxLen at hn
  by_cases h : l - n < 0 <;>
  · go_enter Try.func140, Try.ntmps140
    go_wp2_with fail
    go_ret
    exact ⟨_, rfl, by unfold SzR; omega, Below.refl _ _⟩
/-- how much a row of orders takes -/
def ordsL : List Ordr → Int
  | [] => 0
  | x :: l => 1 + x.1.length + x.2.length + ordsL l
theorem ordsL_pos : ∀ l : List Ordr, 0 ≤ ordsL l
  | [] => by simp [ordsL]
  | x :: l => by have := ordsL_pos l; simp only [ordsL]; omega
theorem ordsL_snoc : ∀ (l : List Ordr) (x : Ordr), ordsL (l ++ [x]) = ordsL l + (1 + x.1.length + x.2.length)
  | [], x => by simp [ordsL]
  | y :: l, x => by rw [List.cons_append, ordsL, ordsL_snoc l x, ordsL]; omega
theorem ordsL_len : ∀ l : List Ordr, (l.length : Int) ≤ ordsL l
  | [] => by simp [ordsL]
  | x :: l => by have := ordsL_len l; simp only [ordsL, List.length_cons]; omega
theorem ordsL_mem : ∀ (l : List Ordr) (x : Ordr), x ∈ l → (x.1.length : Int) + x.2.length ≤ ordsL l
  | [], x, h => by cases h
  | y :: l, x, h => by
    have hp := ordsL_pos l
    simp only [ordsL]
    rcases List.mem_cons.1 h with rfl | h
    · omega
    · have := ordsL_mem l x h; omega
set_option maxHeartbeats 1000000 in
theorem szOrder_calls (Ai Ak : Option Addr) (ni ci nk ck : Nat) (l : Int) (w : World) (hi : ni ≤ maxLen) (hk : nk ≤ maxLen) (h0 : 0 ≤ l) (hl : l ≤ 1048576) :
    Calls Try.prog 96 #[.agg #[.slice Ai ni ci, .slice Ak nk ck], .int .i64 l] w (Sized l (ni + nk) w) := by
  have h1 := szIntS_calls Ai ni ci l (w.alloc (.cells #[.slice Ai ni ci, .slice Ak nk ck] 118 (0, 0))) hi h0 hl
  have h2 := fun r w1 (a : 0 ≤ r) (b : r ≤ 1048576) => szIntS_calls Ak nk ck r w1 hk a b
  have hal := below_al (Below.refl w.heap.size w) (.cells #[.slice Ai ni ci, .slice Ak nk ck] 118 (0, 0))
  replace h1 := Lib.hid h1
  replace h2 := Lib.hid h2
  replace hal := Lib.hid hal
  go_enter Try.func96, Try.ntmps96
  go_wp2_with fail
  refine h1.out.mono ?_
  rintro e w1 ⟨r, rfl, hz, g1⟩
  have b1 := hal.out.trans (g1.mono hal.out.size)
  have x1 : w1.cell? ⟨w.heap.size, 1, none⟩ = some (.slice Ak nk ck) := (g1.cell (p := ⟨w.heap.size, 1, none⟩) (by simp)).trans (cellm (heap_alloc_new w _) 1)
  have hs1 : w.heap.size < w1.heap.size := by have := g1.size; simp at this; omega
  replace b1 := Lib.hid b1
  clear g1 h1 hal
  rcases hz with rfl | ⟨hz0, hz1⟩
  · clear x1
    go_wp2_with fail
    go_ret
    exact ⟨_, rfl, .inl rfl, b1.out⟩
  · have hn : ¬ r < 0 := by omega
    have k2 := h2.out r w1 hz0 (by omega)
    replace k2 := Lib.hid k2
    clear h2
    go_wp2_with fail
    refine k2.out.mono ?_
    rintro e w2 ⟨r2, rfl, hz, g2⟩
    have b2 := b1.out.trans (g2.mono b1.out.size)
    clear g2 k2 x1
    rcases hz with rfl | ⟨hz2, hz3⟩
    · go_wp2_with fail
      go_ret
      exact ⟨_, rfl, .inl rfl, b2⟩
    · have hn2 : ¬ r2 < 0 := by omega
      go_wp2_with fail
      go_ret
      exact ⟨_, rfl, .inr ⟨hz2, by omega⟩, b2⟩
set_option maxHeartbeats 1000000 in
theorem szOrderS_calls (A : Option Addr) (c : Nat) (l : List Ordr) (lf : Int) (B : Nat) (w0 w : World) (hb : Below B w0 w) (hB : B ≤ w.heap.size) (hl : l.length ≤ maxLen) (hx : OrdsAt B w0 A l) (h0 : 0 ≤ lf) (hlf : lf ≤ 1048576) :
    Calls Try.prog 37 #[.slice A l.length c, .int .i64 lf] w (Sized lf (ordsL l) w) := by
  unfold maxLen at hl
  replace hb := Lib.hid hb
  replace hx := Lib.hid hx
  by_cases h : lf - l.length < 0
  · go_enter Try.func37, Try.ntmps37
    go_wp2_with fail
    go_ret
    exact ⟨_, rfl, .inl rfl, Below.refl _ _⟩
  · go_enter Try.func37, Try.ntmps37
    go_wp2_with fail
    go_loopw [1, 5] (fun x i wr => ∃ (j : Nat) (r : Int), j ≤ l.length ∧ i = .int .i64 j ∧ x = .int .i64 r ∧ 0 ≤ r ∧ r ≤ 1048576 ∧ Hid (r + (l.length - j) + ordsL (l.take j) = lf) ∧ Hid (Below w.heap.size w wr)) (fun _ i _ => l.length - (intOf i).toNat)
    case atStart => exact ⟨0, lf - l.length, Nat.zero_le _, rfl, rfl, by omega, by omega, Lib.hid (by simp [ordsL]), Lib.hid (Below.refl _ _)⟩
    case round =>
      obtain ⟨j, r, hj, rfl, rfl, hr0, hr1, he, hw⟩ := hrel
      by_cases hlt : j < l.length
      · obtain ⟨b, o, Ai, ci, Ak, ck, rfl, hbl, h1, h2, hoi⟩ := hx.out.at (below_up' hb.out hB hw.out) (Nat.le_trans hB hw.out.size) j hlt
        have hcall := szOrder_calls Ai Ak l[j].1.length ci l[j].2.length ck r wr (Nat.le_trans hoi.il hoi.im) (Nat.le_trans hoi.kl hoi.km) hr0 hr1
        have htk : ordsL (l.take (j + 1)) = ordsL (l.take j) + (1 + l[j].1.length + l[j].2.length) := by rw [List.take_succ_eq_append_getElem hlt, ordsL_snoc]
        replace hcall := Lib.hid hcall
        replace htk := Lib.hid htk
        replace hoi := Lib.hid hoi
        go_wp2_with fail
        refine hcall.out.mono ?_
        rintro e w2 ⟨r2, rfl, hz, h2⟩
        have hw2 := below_up hw.out h2
        replace hw2 := Lib.hid hw2
        clear h2 hcall
        rcases hz with rfl | ⟨hz0, hz1⟩
        · go_wp2_with fail
          go_ret
          exact ⟨_, rfl, .inl rfl, hw2.out⟩
        · have hle : r2 ≤ r := by omega
          have he2 : r2 + (l.length - (j + 1 : Nat)) + ordsL (l.take (j + 1)) = lf := by have := he.out; have := htk.out; omega
          have hn : ¬ r2 < 0 := by omega
          replace hz1 := Lib.hid hz1
          replace he2 := Lib.hid he2
          go_wp2_with fail
          go_roundw
          case rel => exact ⟨j + 1, r2, by omega, by go_num, rfl, hz0, by omega, he2, hw2⟩
          case measure => simp [intOf]; omega
      · have e : j = l.length := by omega
        subst e
        have he2 := he.out
        rw [List.take_length] at he2
        replace he2 := Lib.hid he2
        go_wp2_with fail
        go_ret
        exact ⟨_, rfl, .inr ⟨hr0, by have := he2.out; omega⟩, hw.out⟩
set_option maxHeartbeats 1000000 in
theorem eqOrder_same (Ai Ai2 Ak Ak2 : Option Addr) (ci ci2 ck ck2 : Nat) (x : Ordr) (w : World) (hi : x.1.length ≤ maxLen) (hk : x.2.length ≤ maxLen) (h1 : IntsAt w.heap.size w Ai x.1) (h2 : IntsAt w.heap.size w Ai2 x.1) (h3 : IntsAt w.heap.size w Ak x.2) (h4 : IntsAt w.heap.size w Ak2 x.2) :
    Calls Try.prog 98 #[.agg #[.slice Ai x.1.length ci, .slice Ak x.2.length ck], .agg #[.slice Ai2 x.1.length ci2, .slice Ak2 x.2.length ck2]] w fun e w' => e = .returned (.bool true) ∧ Below w.heap.size w w' := by
  have hal := below_al (below_al (Below.refl w.heap.size w) (.cells #[.slice Ai x.1.length ci, .slice Ak x.2.length ck] 116 (0, 0))) (.cells #[.slice Ai2 x.1.length ci2, .slice Ak2 x.2.length ck2] 116 (0, 0))
  have k1 := eqIntS_same Ai Ai2 ci ci2 x.1 _ hi (h1.up hal hal.size) (h2.up hal hal.size)
  have k2 := fun w1 (hw : Below w.heap.size w w1) => eqIntS_same Ak Ak2 ck ck2 x.2 w1 hk (h3.up hw hw.size) (h4.up hw hw.size)
  replace k1 := Lib.hid k1
  replace k2 := Lib.hid k2
  replace hal := Lib.hid hal
  clear h1 h2 h3 h4
  go_enter Try.func98, Try.ntmps98
  go_wp2_with fail
  refine k1.out.mono ?_
  rintro e w1 ⟨rfl, g1⟩
  have x1 : w1.cell? ⟨w.heap.size, 1, none⟩ = some (.slice Ak x.2.length ck) := (g1.cell (p := ⟨w.heap.size, 1, none⟩) (by simp; omega)).trans ((cell_al (by simp)).trans (cellm (heap_alloc_new w _) 1))
  have x2 : w1.cell? ⟨w.heap.size + 1, 1, none⟩ = some (.slice Ak2 x.2.length ck2) := (g1.cell (p := ⟨w.heap.size + 1, 1, none⟩) (by simp)).trans (by simp)
  have b1 := hal.out.trans (g1.mono hal.out.size)
  have k3 := k2.out w1 b1
  replace k3 := Lib.hid k3
  replace b1 := Lib.hid b1
  clear g1 k2 hal k1
  go_wp2_with fail
  refine k3.out.mono ?_
  rintro e w2 ⟨rfl, g2⟩
  clear x1 x2
  go_wp2_with fail
  go_ret
  exact ⟨rfl, below_up b1.out g2⟩
set_option maxHeartbeats 2000000 in
theorem eqOrderS_same (A A2 : Option Addr) (c c2 : Nat) (l : List Ordr) (w : World) (hl : l.length ≤ maxLen) (hx : OrdsAt w.heap.size w A l) (hy : OrdsAt w.heap.size w A2 l) :
    Calls Try.prog 40 #[.slice A l.length c, .slice A2 l.length c2] w fun e w' => e = .returned (.bool true) ∧ Below w.heap.size w w' := by
  unfold maxLen at hl
  replace hx := Lib.hid hx
  replace hy := Lib.hid hy
  go_enter Try.func40, Try.ntmps40
  go_wp2_with fail
  go_loopw [5] (fun i wr => ∃ (j : Nat), j ≤ l.length ∧ i = .int .i64 j ∧ Hid (Below w.heap.size w wr)) (fun i _ => l.length - (intOf i).toNat)
  case atStart => exact ⟨0, Nat.zero_le _, rfl, Lib.hid (Below.refl _ _)⟩
  case round =>
    obtain ⟨j, hj, rfl, hw⟩ := hrel
    obtain ⟨w9, hw9⟩ : ∃ w9, w9 = wr := ⟨_, rfl⟩
    subst hw9
    by_cases hlt : j < l.length
    · obtain ⟨b, o, Ai, ci, Ak, ck, rfl, hb, a1, a2, hoi⟩ := hx.out.at hw.out hw.out.size j hlt
      obtain ⟨b2, o2, Ai2, ci2, Ak2, ck2, rfl, hb2, a3, a4, hoj⟩ := hy.out.at hw.out hw.out.size j hlt
      have up := hw.out.drew
      have hcall := eqOrder_same Ai Ai2 Ak Ak2 ci ci2 ck ck2 l[j] w9.drew (Nat.le_trans hoi.il hoi.im) (Nat.le_trans hoi.kl hoi.km) (hoi.ia.up up up.size) (hoj.ia.up up up.size) (hoi.ka.up up up.size) (hoj.ka.up up up.size)
      replace hcall := Lib.hid hcall
      replace hoi := Lib.hid hoi
      replace hoj := Lib.hid hoj
      clear up
      go_wp2_with fail
      go_region_held3 (fun w' => w'.cell? ⟨b, o + j * 2, none⟩ = some (.slice Ai l[j].1.length ci) ∧ w'.cell? ⟨b, o + j * 2 + 1, none⟩ = some (.slice Ak l[j].2.length ck) ∧ w'.cell? ⟨b2, o2 + j * 2, none⟩ = some (.slice Ai2 l[j].1.length ci2) ∧ w'.cell? ⟨b2, o2 + j * 2 + 1, none⟩ = some (.slice Ak2 l[j].2.length ck2))
        (first | exact ⟨k1, k2, k3, k4⟩ | exact ⟨a1, a2, a3, a4⟩)
        (first | (go_at_call 98; refine hcall.out.mono ?_; rintro e w2 ⟨rfl, q2⟩; have k1 := kept_cell q2 hb a1; have k2 := kept_cell q2 hb a2; have k3 := kept_cell q2 hb2 a3; have k4 := kept_cell q2 hb2 a4; have hw2 := below_up hw.out.drew q2; replace hw2 := Lib.hid hw2; clear q2))
      all_goals
        clear k1 k2 k3 k4 a1 a2 a3 a4
        go_wp2_with fail
        go_roundw
        case rel => exact ⟨j + 1, by omega, by go_num, hw2⟩
        case measure => simp [intOf]; omega
    · go_wp2_with fail
      go_ret
      exact ⟨rfl, hw.out⟩
set_option maxHeartbeats 1000000 in
theorem eqIntSS_same (A : Option Addr) (c : Nat) (A2 : Option Addr) (c2 : Nat) (ll : List (List Int)) (w : World) (hx : RowsAt w.heap.size w A ll) (hy : RowsAt w.heap.size w A2 ll) (hl : ll.length ≤ 1048576) (hs : ∀ x ∈ ll, x.length ≤ 1048576) :
    Calls Try.prog 39 #[.slice A ll.length c, .slice A2 ll.length c2] w fun e w' => e = .returned (.bool true) ∧ Below w.heap.size w w' := by
  replace hx := Lib.hid hx
  replace hy := Lib.hid hy
  replace hs := Lib.hid hs
  go_enter Try.func39, Try.ntmps39
  go_wp2_with fail
  go_loopw [5] (fun i wr => ∃ (j : Nat), j ≤ ll.length ∧ i = .int .i64 j ∧ Hid (Below w.heap.size w wr)) (fun i _ => ll.length - (intOf i).toNat)
  case atStart => exact ⟨0, Nat.zero_le _, rfl, Lib.hid (Below.refl _ _)⟩
  case round =>
    obtain ⟨j, hj, rfl, hw⟩ := hrel
    obtain ⟨w9, hw9⟩ : ∃ w9, w9 = wr := ⟨_, rfl⟩
    subst hw9
    by_cases hlt : j < ll.length
    · obtain ⟨b, o, Ar, cr, rfl, hb, c1, hi1⟩ := hx.out.at hw.out hw.out.size j hlt
      obtain ⟨b2, o2, Ar2, cr2, rfl, hb2, c3, hi2⟩ := hy.out.at hw.out hw.out.size j hlt
      have hm := hs.out _ (List.getElem_mem hlt)
      have hk := eqIntS_same Ar Ar2 cr cr2 ll[j] w9.drew (by unfold maxLen; omega) (hi1.up (Below.refl _ _).drew (Nat.le_refl _)) (hi2.up (Below.refl _ _).drew (Nat.le_refl _))
      replace hk := Lib.hid hk
      clear hi1 hi2
      go_wp2_with fail
      go_region_held3 (fun w' => w'.cell? ⟨b, o + j, none⟩ = some (.slice Ar ll[j].length cr) ∧ w'.cell? ⟨b2, o2 + j, none⟩ = some (.slice Ar2 ll[j].length cr2)) (first | exact ⟨l1, l2⟩ | exact ⟨c1, c3⟩)
        (first | (go_at_call 18; refine hk.out.mono ?_; rintro e w10 ⟨rfl, h10⟩; have l1 := kept_cell h10 hb c1; have l2 := kept_cell h10 hb2 c3))
      all_goals
        have hw10 := hw.out.drew.trans (h10.mono hw.out.size)
        replace hw10 := Lib.hid hw10
        clear h10 l1 l2 c1 c3
        go_wp2_with fail
        go_roundw
        case rel => exact ⟨j + 1, by omega, by go_num, hw10⟩
        case measure => simp [intOf]; omega
    · go_wp2_with fail
      go_ret
      exact ⟨rfl, hw.out⟩
end Go.Proofs.Ytpccgdkidnkppaa

set_option linter.unusedVariables false
set_option linter.unusedSimpArgs false
namespace Go.Proofs.Ytpccgdkidnkppaa
open Go Go.RowKit

/-! rows of orders, copied -/
def IR (ex : Bool) (w : World) (b : Nat) (xs : List Int) : Prop := ∃ ys : List Int, ys.length = xs.length ∧ (ex = true → ys = xs) ∧ RowBlk (fun n : Int => Value.int .i64 n) 3 w b ys
theorem IR.lt {ex : Bool} {w : World} {b : Nat} {xs : List Int} (h : IR ex w b xs) : b < w.heap.size := by obtain ⟨ys, _, _, h⟩ := h; exact h.lt
theorem IR.keep {ex : Bool} {w w' : World} {b : Nat} {xs : List Int} (h : IR ex w b xs) (hk : w'.heap[b]? = w.heap[b]?) : IR ex w' b xs := by
  obtain ⟨ys, h1, h2, h3⟩ := h
  exact ⟨ys, h1, h2, h3.turn hk⟩
theorem IR.weak {ex : Bool} {w : World} {b : Nat} {xs : List Int} (h : IR ex w b xs) : IR false w b xs := by
  obtain ⟨ys, h1, h2, h3⟩ := h
  exact ⟨ys, h1, fun e => (by cases e), h3⟩
structure OrdT (ex : Bool) (lo hi bn : Nat) (l : List Ordr) (j : Nat) (f g : Nat → Nat) (w : World) : Prop where
  hlo : lo ≤ bn
  hhi : bn < hi
  blk : ∃ cur, w.heap[bn]? = some (.cells cur 116 (0, 0)) ∧ cur.size = l.length * 2 ∧ ∀ i (h : i < l.length), i < j → cur[i * 2]? = some (.slice (some ⟨f i, 0, none⟩) l[i].1.length l[i].1.length) ∧ cur[i * 2 + 1]? = some (.slice (some ⟨g i, 0, none⟩) l[i].2.length l[i].2.length)
  rows : ∀ i (h : i < l.length), i < j → IR ex w (f i) l[i].1 ∧ IR ex w (g i) l[i].2
  ord : ∀ i, i < l.length → i < j → bn < f i ∧ f i < g i ∧ g i < hi
  apart : ∀ i i', i < i' → i' < j → i' < l.length → g i < f i'
section
variable {ex : Bool} {lo hi bn j : Nat} {l : List Ordr} {f g : Nat → Nat} {w w' : World}
theorem OrdT.kept {hi' : Nat} (h : OrdT ex lo hi bn l j f g w) (hk : ∀ b, lo ≤ b → b < hi → w'.heap[b]? = w.heap[b]?) (hh : hi ≤ hi') : OrdT ex lo hi' bn l j f g w' := by
  obtain ⟨cur, h1, h2, h3⟩ := h.blk
  have a1 := h.hlo
  have a2 := h.hhi
  refine ⟨a1, by omega, ⟨cur, (hk bn a1 a2).trans h1, h2, h3⟩, fun i hi hj => ?_, fun i hi hj => ?_, h.apart⟩
  · obtain ⟨r1, r2⟩ := h.rows i hi hj
    have := h.ord i hi hj
    exact ⟨r1.keep (hk _ (by omega) (by omega)), r2.keep (hk _ (by omega) (by omega))⟩
  · have := h.ord i hi hj
    exact ⟨this.1, this.2.1, by omega⟩
theorem OrdT.at {B : Nat} (h : OrdT true lo hi bn l l.length f g w) (hB : hi ≤ B) (hs : ∀ x ∈ l, x.1.length ≤ maxLen ∧ x.2.length ≤ maxLen) : OrdsAt B w (some ⟨bn, 0, none⟩) l := by
  intro i hi
  obtain ⟨cur, h1, h2, h3⟩ := h.blk
  obtain ⟨c1, c2⟩ := h3 i hi hi
  obtain ⟨⟨ys, -, e1, r1⟩, ⟨zs, -, e2, r2⟩⟩ := h.rows i hi hi
  have ho := h.ord i hi hi
  have hx := hs _ (List.getElem_mem hi)
  obtain rfl := e1 rfl
  obtain rfl := e2 rfl
  have hhi := h.hhi
  refine ⟨bn, 0, _, _, _, _, rfl, by omega, by rw [Nat.zero_add, cellm h1]; exact c1, by rw [Nat.zero_add, cellm h1]; exact c2, ⟨fun q hq => ⟨f i, 0, rfl, by omega, ?_⟩, Nat.le_refl _, hx.1, fun q hq => ⟨g i, 0, rfl, by omega, ?_⟩, Nat.le_refl _, hx.2⟩⟩
  · rw [Nat.zero_add]; exact r1.cell hq
  · rw [Nat.zero_add]; exact r2.cell hq
theorem OrdT.weak (h : OrdT ex lo hi bn l j f g w) : OrdT false lo hi bn l j f g w :=
  ⟨h.hlo, h.hhi, h.blk, fun i hi hj => ⟨(h.rows i hi hj).1.weak, (h.rows i hi hj).2.weak⟩, h.ord, h.apart⟩
end
theorem make_orders (n : Nat) (hn : n ≤ 1048576) : ∀ W : World, (Instr.makeSlice 49 (.int .i64 (n : Int)) (.int .i64 (n : Int))).run Try.prog W = .ok (.slice (some ⟨W.heap.size, 0, none⟩) n n) (W.alloc (.cells (madeCells #[.slice none 0 0, .slice none 0 0] (n * 2)) 116)) := by
  intro W
  have hinfo : (Try.prog.info? 116).map (fun i => (i.zero, i.size, i.bytes)) = some (some (.agg #[.slice none 0 0, .slice none 0 0]), 2, 48) := by kernel_rfl
  obtain ⟨i, hi, hz, hs, hb⟩ := info_parts hinfo
  have hr := run_make (P := Try.prog) W 49 116 i (.agg #[.slice none 0 0, .slice none 0 0]) Try.underlying49 hi hz .i64 .i64 n n (by omega) (Int.le_refl _) (by rw [hb]; omega) (by omega)
  simp only [Int.toNat_natCast, hs] at hr
  exact hr
theorem ret_ord2 {fn : Func} {t : Nat} {tmps : Array Value} {Q : Ending → World → Prop} {W : World} {m : Nat} {a b : Value} (hr : fn.results = #[.cell t 116])
    (ht : tmps.getD t undef = .pointer (some ⟨m, 0, none⟩)) (hW : W.heap[m]? = some (.cells #[a, b] 116 (0, 0))) (K : Q (.returned (.agg #[a, b])) W) : bodyPost Try.prog fn Q .ret ⟨tmps, []⟩ W := by
  have y0 : W.cell? ⟨m, 0, none⟩ = some a := cellm hW 0
  have y1 : W.cell? ⟨m, 1, none⟩ = some b := cellm hW 1
  refine bodyPost_ret (v := .agg #[a, b]) ?_ rfl K
  have ht' : tmps[t]?.getD undef = .pointer (some ⟨m, 0, none⟩) := by simpa using ht
  simp [results, hr, ht', go_sem, y0, y1]
def ToO (x : Ordr) (w : World) (e : Ending) (w' : World) : Prop :=
  ∃ bi bk, e = .returned (.agg #[.slice (some ⟨bi, 0, none⟩) x.1.length x.1.length, .slice (some ⟨bk, 0, none⟩) x.2.length x.2.length]) ∧ w.heap.size ≤ bi ∧ bi < bk ∧ RowBlk (fun n : Int => Value.int .i64 n) 3 w' bi x.1 ∧ RowBlk (fun n : Int => Value.int .i64 n) 3 w' bk x.2 ∧ Below w.heap.size w w'

set_option maxHeartbeats 4000000 in
theorem toOrder_calls (Ai Ak : Option Addr) (ci ck : Nat) (x : Ordr) (B : Nat) (w0 w : World) (hb : Below B w0 w) (hB : B ≤ w.heap.size) (hi : x.1.length ≤ 1048576) (hk : x.2.length ≤ 1048576) (h1 : IntsAt B w0 Ai x.1) (h2 : IntsAt B w0 Ak x.2) :
    Calls Try.prog 97 #[.agg #[.slice Ai x.1.length ci, .slice Ak x.2.length ck]] w (ToO x w) := by
  have hb1 := fun w1 (hw : Below w.heap.size w w1) => toIntS_calls Ai ci x.1 B w0 w1 (below_up' hb hB hw) (Nat.le_trans hB hw.size) hi h1
  have hb2 := fun w1 (hw : Below w.heap.size w w1) => toIntS_calls Ak ck x.2 B w0 w1 (below_up' hb hB hw) (Nat.le_trans hB hw.size) hk h2
  replace hb1 := Lib.hid hb1
  replace hb2 := Lib.hid hb2
  clear hb h1 h2
  go_enter Try.func97, Try.ntmps97
  go_wp2_with fail
  refine (hb1.out _ (below_al (below_al (below_al (Below.refl _ _) _) _) _)).mono ?_
  rintro e w1 ⟨rfl, hR, h1⟩
  have q0 := (h1.block w.heap.size (by simp; omega)).trans ((heap_old (by simp; omega)).trans ((heap_old (by simp)).trans (heap_new rfl)))
  have q1 := (h1.block (w.heap.size + 1) (by simp)).trans ((heap_old (by simp)).trans (heap_new (by simp)))
  have q2 := (h1.block (w.heap.size + 1 + 1) (by simp)).trans (heap_new (by simp))
  have hlo : (((w.alloc (.cells #[.slice Ai x.1.length ci, .slice Ak x.2.length ck] 118)).alloc (.cells #[.slice none 0 0, .slice none 0 0] 116)).alloc (.cells #[.slice none 0 0, .slice none 0 0] 116)).heap.size = w.heap.size + 1 + 1 + 1 := by simp
  rw [hlo] at hR
  have x0 := (cellm q2 0).trans rfl
  have f0 := frozenm q2 0
  have x1 := (cellm q0 1).trans rfl
  have b1 : Below w.heap.size w w1 := below_from (below_from (below_from h1))
  have s1 := hR.lt
  have hset : Below w.heap.size w (w1.setCell ⟨w.heap.size + 1 + 1, 0, none⟩ (.slice (some ⟨w.heap.size + 1 + 1 + 1, 0, none⟩) x.1.length x.1.length)) := b1.setCell (by simp; omega) _
  have e2 := setCell_block q2 0 (.slice (some ⟨w.heap.size + 1 + 1 + 1, 0, none⟩) x.1.length x.1.length)
  have hR1 := hR.turn (setCell_far (w := w1) (m := w.heap.size + 1 + 1) (j := 0) (v := .slice (some ⟨w.heap.size + 1 + 1 + 1, 0, none⟩) x.1.length x.1.length) (k := w.heap.size + 1 + 1 + 1) (by omega))
  have e1 := (setCell_far (w := w1) (m := w.heap.size + 1 + 1) (j := 0) (v := .slice (some ⟨w.heap.size + 1 + 1 + 1, 0, none⟩) x.1.length x.1.length) (k := w.heap.size + 1) (by omega)).trans q1
  have hz : (w1.setCell ⟨w.heap.size + 1 + 1, 0, none⟩ (.slice (some ⟨w.heap.size + 1 + 1 + 1, 0, none⟩) x.1.length x.1.length)).heap.size = w1.heap.size := by simp [World.setCell]
  replace hR1 := Lib.hid hR1
  replace e1 := Lib.hid e1
  replace e2 := Lib.hid e2
  replace hset := Lib.hid hset
  replace hz := Lib.hid hz
  clear hlo h1 hR q1 q2 q0 b1
  go_wp2_with fail
  refine (hb2.out _ hset.out).mono ?_
  rintro e w2 ⟨rfl, ht, h2⟩
  have q1 := (h2.block (w.heap.size + 1) (by rw [hz.out]; omega)).trans e1.out
  have q2 := (h2.block (w.heap.size + 1 + 1) (by rw [hz.out]; omega)).trans e2.out
  have hR2 := hR1.out.turn (h2.block _ (by rw [hz.out]; omega))
  have hb3 := below_up hset.out h2
  have hs2 := h2.size
  rw [hz.out] at ht hs2
  have y0 := (cellm q1 0).trans rfl
  have y1 := (cellm q1 1).trans rfl
  have g0 := frozenm q1 0
  have g1 := frozenm q1 1
  have z0 := (cellm q2 0).trans rfl
  have z1 := (cellm q2 1).trans rfl
  have k1 := frozenm q2 1
  clear x0 f0 x1 hs2 h2
  have hz' := hz.out
  simp only [hz']
  obtain ⟨mid, hmid⟩ : ∃ mid, mid = w1.heap.size := ⟨_, rfl⟩
  rw [← hmid] at ht s1 ⊢
  have p1 := setCell_far (w := w2) (m := w.heap.size + 1 + 1) (j := 1) (v := .slice (some ⟨mid, 0, none⟩) x.2.length x.2.length) (k := w.heap.size + 1) (by omega)
  have p2 := setCell_block (setCell_block (p1.trans q1) 0 (.slice (some ⟨w.heap.size + 1 + 1 + 1, 0, none⟩) x.1.length x.1.length)) 1 (.slice (some ⟨mid, 0, none⟩) x.2.length x.2.length)
  have hK : ∀ b, b ≠ w.heap.size + 1 → b ≠ w.heap.size + 1 + 1 → (((w2.setCell ⟨w.heap.size + 1 + 1, 1, none⟩ (.slice (some ⟨mid, 0, none⟩) x.2.length x.2.length)).setCell ⟨w.heap.size + 1, 0, none⟩ (.slice (some ⟨w.heap.size + 1 + 1 + 1, 0, none⟩) x.1.length x.1.length)).setCell ⟨w.heap.size + 1, 1, none⟩ (.slice (some ⟨mid, 0, none⟩) x.2.length x.2.length)).heap[b]? = w2.heap[b]? :=
    fun b h2 h3 => ((setCell_far h2).trans (setCell_far h2)).trans (setCell_far h3)
  have hbW : Below w.heap.size w (((w2.setCell ⟨w.heap.size + 1 + 1, 1, none⟩ (.slice (some ⟨mid, 0, none⟩) x.2.length x.2.length)).setCell ⟨w.heap.size + 1, 0, none⟩ (.slice (some ⟨w.heap.size + 1 + 1 + 1, 0, none⟩) x.1.length x.1.length)).setCell ⟨w.heap.size + 1, 1, none⟩ (.slice (some ⟨mid, 0, none⟩) x.2.length x.2.length)) :=
    ((hb3.setCell (by simp; omega) _).setCell (by simp) _).setCell (by simp) _
  have r1 := hR2.turn (hK _ (by omega) (by omega))
  have r2 := ht.turn (hK _ (by omega) (by omega))
  replace r1 := Lib.hid r1
  replace r2 := Lib.hid r2
  replace hbW := Lib.hid hbW
  replace p2 := Lib.hid p2
  clear hK p1 hb3 ht q1 q2 hR2 hz' hmid
  go_wp2_with fail
  exact ret_ord2 rfl (by rfl) p2.out ⟨_, mid, rfl, by omega, by omega, r1.out, r2.out, hbW.out⟩
end Go.Proofs.Ytpccgdkidnkppaa

set_option linter.unusedVariables false
set_option linter.unusedSimpArgs false
namespace Go.Proofs.Ytpccgdkidnkppaa
open Go Go.RowKit

def updN (f : Nat → Nat) (j v : Nat) : Nat → Nat := fun i => if i = j then v else f i
section
variable {lo hi bn j : Nat} {l : List Ordr} {f g : Nat → Nat} {w : World}
theorem OrdT.cells {ex : Bool} (h : OrdT ex lo hi bn l j f g w) {i : Nat} (hi : i < l.length) : (∃ x, w.cell? ⟨bn, i * 2, none⟩ = some x) ∧ (∃ x, w.cell? ⟨bn, i * 2 + 1, none⟩ = some x) ∧ ∀ q, w.frozen? ⟨bn, q, none⟩ = false := by
  obtain ⟨cur, h1, h2, h3⟩ := h.blk
  exact ⟨⟨_, (cellm h1 _).trans (Array.getElem?_eq_getElem (by omega))⟩, ⟨_, (cellm h1 _).trans (Array.getElem?_eq_getElem (by omega))⟩, fun q => frozenm h1 q⟩
theorem OrdT.put {hi' bi bk : Nat} (h : OrdT true lo hi bn l j f g w) (hj : j < l.length) (h1 : hi ≤ bi) (h2 : bi < bk) (h3 : bk < hi') (r1 : RowBlk (fun n : Int => Value.int .i64 n) 3 w bi l[j].1) (r2 : RowBlk (fun n : Int => Value.int .i64 n) 3 w bk l[j].2) :
    OrdT true lo hi' bn l (j + 1) (updN f j bi) (updN g j bk) ((w.setCell ⟨bn, j * 2, none⟩ (.slice (some ⟨bi, 0, none⟩) l[j].1.length l[j].1.length)).setCell ⟨bn, j * 2 + 1, none⟩ (.slice (some ⟨bk, 0, none⟩) l[j].2.length l[j].2.length)) := by
  obtain ⟨cur, g1, g2, g3⟩ := h.blk
  have a1 := h.hlo
  have a2 := h.hhi
  have e1 := setCell_block g1 (j * 2) (.slice (some ⟨bi, 0, none⟩) l[j].1.length l[j].1.length)
  have e2 := setCell_block e1 (j * 2 + 1) (.slice (some ⟨bk, 0, none⟩) l[j].2.length l[j].2.length)
  have hfar : ∀ b, b ≠ bn → ((w.setCell ⟨bn, j * 2, none⟩ (.slice (some ⟨bi, 0, none⟩) l[j].1.length l[j].1.length)).setCell ⟨bn, j * 2 + 1, none⟩ (.slice (some ⟨bk, 0, none⟩) l[j].2.length l[j].2.length)).heap[b]? = w.heap[b]? := fun b hb => (setCell_far hb).trans (setCell_far hb)
  refine ⟨a1, by omega, ⟨_, e2, by simpa using g2, fun i hil hij => ?_⟩, fun i hil hij => ?_, fun i hil hij => ?_, fun i i' h4 h5 h6 => ?_⟩
  · by_cases e : i = j
    · subst e
      refine ⟨?_, ?_⟩
      · simp [updN, Array.getElem?_setIfInBounds, show i * 2 < cur.size by omega]
      · simp [updN, Array.getElem?_setIfInBounds, show i * 2 + 1 < cur.size by omega]
    · obtain ⟨c1, c2⟩ := g3 i hil (by omega)
      refine ⟨?_, ?_⟩
      · simpa [updN, e, Array.getElem?_setIfInBounds, show ¬ j * 2 = i * 2 by omega, show ¬ j * 2 + 1 = i * 2 by omega] using c1
      · simpa [updN, e, Array.getElem?_setIfInBounds, show ¬ j * 2 = i * 2 + 1 by omega, show ¬ j * 2 = i * 2 by omega, show ¬ j * 2 + 1 = i * 2 + 1 by omega] using c2
  · by_cases e : i = j
    · subst e
      simp only [updN, if_true]
      exact ⟨⟨_, rfl, fun _ => rfl, r1.turn (hfar _ (by omega))⟩, ⟨_, rfl, fun _ => rfl, r2.turn (hfar _ (by omega))⟩⟩
    · obtain ⟨q1, q2⟩ := h.rows i hil (by omega)
      have ho := h.ord i hil (by omega)
      simp only [updN, if_neg e]
      exact ⟨q1.keep (hfar _ (by omega)), q2.keep (hfar _ (by omega))⟩
  · by_cases e : i = j
    · subst e
      simp only [updN, if_true]
      omega
    · have ho := h.ord i hil (by omega)
      simp only [updN, if_neg e]
      omega
  · by_cases e : i' = j
    · subst e
      have ho := h.ord i (by omega) h4
      simp only [updN, if_true, if_neg (show ¬ i = i' by omega)]
      omega
    · have := h.apart i i' h4 (by omega) h6
      simp only [updN, if_neg e, if_neg (show ¬ i = j by omega)]
      exact this
end
/-- a row of orders, copied into a region of its own -/
def OrdK (lo hi : Nat) (l : List Ordr) (w : World) : Prop := ∃ f g, OrdT true lo hi lo l l.length f g w
theorem OrdK.kept {lo hi hi' : Nat} {l : List Ordr} {w w' : World} (h : OrdK lo hi l w) (hk : ∀ b, lo ≤ b → b < hi → w'.heap[b]? = w.heap[b]?) (hh : hi ≤ hi') : OrdK lo hi' l w' := by
  obtain ⟨f, g, h⟩ := h
  exact ⟨f, g, h.kept hk hh⟩
theorem OrdK.at {lo hi B : Nat} {l : List Ordr} {w : World} (h : OrdK lo hi l w) (hB : hi ≤ B) (hs : ∀ x ∈ l, x.1.length ≤ maxLen ∧ x.2.length ≤ maxLen) : OrdsAt B w (some ⟨lo, 0, none⟩) l := by
  obtain ⟨f, g, h⟩ := h
  exact h.at hB hs

set_option maxHeartbeats 4000000 in
theorem toOrderS_calls (A : Option Addr) (c : Nat) (l : List Ordr) (B : Nat) (w0 w : World) (hb : Below B w0 w) (hB : B ≤ w.heap.size) (hl : l.length ≤ 1048576) (hs : ∀ x ∈ l, x.1.length ≤ 1048576 ∧ x.2.length ≤ 1048576) (hx : OrdsAt B w0 A l) :
    Calls Try.prog 38 #[.slice A l.length c] w fun e w' => e = .returned (.slice (some ⟨w.heap.size, 0, none⟩) l.length l.length) ∧ OrdK w.heap.size w'.heap.size l w' ∧ Below w.heap.size w w' := by
  have hmk := make_orders l.length (by omega)
  replace hb := Lib.hid hb
  replace hx := Lib.hid hx
  replace hs := Lib.hid hs
  go_enter Try.func38, Try.ntmps38
  go_wp2_with fail
  go_loopw [4] (fun i wr => ∃ (j : Nat) (f g : Nat → Nat), j ≤ l.length ∧ i = .int .i64 j ∧ Hid (OrdT true w.heap.size wr.heap.size w.heap.size l j f g wr) ∧ Hid (Below w.heap.size w wr)) (fun i _ => l.length - (intOf i).toNat)
  case atStart => exact ⟨0, id, id, Nat.zero_le _, rfl, Lib.hid ⟨Nat.le_refl _, by simp, ⟨_, heap_new rfl, by simp [madeCells], fun i hi h => by omega⟩, fun i hi h => by omega, fun i hi h => by omega, fun i i' h1 h2 => by omega⟩, Lib.hid (below_al (Below.refl _ _) _)⟩
  case round =>
    obtain ⟨j, f, g, hj, rfl, hL, hw⟩ := hrel
    by_cases hlt : j < l.length
    · obtain ⟨b, o, Ai, ci, Ak, ck, rfl, hbl, h1, h2, hoi⟩ := hx.out.at (below_up' hb.out hB hw.out) (Nat.le_trans hB hw.out.size) j hlt
      have hsj := hs.out _ (List.getElem_mem hlt)
      have hcall := toOrder_calls Ai Ak ci ck l[j] B w0 wr (below_up' hb.out hB hw.out) (Nat.le_trans hB hw.out.size) hsj.1 hsj.2 hoi.ia hoi.ka
      have hsz : w.heap.size < wr.heap.size := hL.out.hhi
      replace hcall := Lib.hid hcall
      replace hoi := Lib.hid hoi
      replace hsj := Lib.hid hsj
      go_wp2_with fail
      refine hcall.out.mono ?_
      rintro e w2 ⟨bi, bk, rfl, g1, g2, g3, g4, g5⟩
      have hL2 := hL.out.kept (w' := w2) (hi' := wr.heap.size) (fun b _ q => g5.block b q) (Nat.le_refl _)
      have hw2 := below_up hw.out g5
      obtain ⟨⟨x0, y0⟩, ⟨x1, y1⟩, ff⟩ := hL2.cells hlt
      have f0 := ff (j * 2)
      have f1 := ff (j * 2 + 1)
      have hL3 := hL2.put hlt g1 g2 g4.lt g3 g4
      have hz3 : ((w2.setCell ⟨w.heap.size, j * 2, none⟩ (.slice (some ⟨bi, 0, none⟩) l[j].1.length l[j].1.length)).setCell ⟨w.heap.size, j * 2 + 1, none⟩ (.slice (some ⟨bk, 0, none⟩) l[j].2.length l[j].2.length)).heap.size = w2.heap.size := by simp [World.setCell]
      rw [← hz3] at hL3
      have hw3 : Below w.heap.size w ((w2.setCell ⟨w.heap.size, j * 2, none⟩ (.slice (some ⟨bi, 0, none⟩) l[j].1.length l[j].1.length)).setCell ⟨w.heap.size, j * 2 + 1, none⟩ (.slice (some ⟨bk, 0, none⟩) l[j].2.length l[j].2.length)) := (hw2.setCell (by simp) _).setCell (by simp) _
      replace hL3 := Lib.hid hL3
      replace hw3 := Lib.hid hw3
      replace hz3 := Lib.hid hz3
      clear g3 g4 g5 hL2 hw2 hcall ff hL hw
      go_wp2_with fail
      go_roundw
      case rel => exact ⟨j + 1, _, _, by omega, by go_num, hL3, hw3⟩
      case measure => simp [intOf]; omega
    · have e : j = l.length := by omega
      subst e
      go_wp2_with fail
      go_ret
      exact ⟨rfl, ⟨f, g, hL.out⟩, hw.out⟩

/-- a row that is owned, as long as its block -/
theorem own_blk {w : World} {base b : Nat} {ys : List Int} (h : w.ownsRow base 3 1 (.slice (some ⟨b, 0, none⟩) ys.length ys.length) ys.length (ints ys)) : RowBlk (fun n : Int => Value.int .i64 n) 3 w b ys := by
  obtain ⟨h1, ⟨h2, _⟩ | ⟨g, cap, cur, h2, h3, h4, h5, h6, h7, h8⟩⟩ := h
  · cases h2
  · simp only [Value.slice.injEq, Option.some.injEq, Addr.mk.injEq, and_true, true_and] at h2
    obtain ⟨rfl, rfl⟩ := h2
    unfold RowBlk
    rw [h4]
    congr 2
    apply Array.ext'
    rw [Nat.mul_one] at h7 h8
    rw [← h7, ← Array.length_toList, List.take_length] at h8
    simpa [ints] using h8
theorem IR.mark {ex : Bool} {w : World} {b : Nat} {xs : List Int} (h : IR ex w b xs) (hl : xs.length ≤ 1048576) (k : Int) (h0 : 0 ≤ k) (hk : k + xs.length ≤ 1000000000000) :
    Calls Try.prog 101 #[.slice (some ⟨b, 0, none⟩) xs.length xs.length, .int .i64 k] w fun e w' => e = .returned (.int .i64 (k + xs.length)) ∧ IR false w' b xs ∧ Turn (· = b) (· = b) w w' := by
  obtain ⟨ys, h1, -, h2⟩ := h
  have := markIntS_calls b (.slice (some ⟨b, 0, none⟩) ys.length ys.length) ys k w (h2.owns (Nat.le_refl _) (by unfold maxLen; omega)) h0 (by omega)
  rw [h1] at this
  refine this.mono fun e w' h => ⟨h.1, ⟨marksI k xs.length, by rw [marksI_length], fun e => (by cases e), own_blk (base := b) (by rw [marksI_length]; exact h.2.1)⟩, ?_⟩
  have ht := h.2.2
  exact ⟨ht.os, ht.tape, ht.output, ht.size, fun i hi hF => ht.block i hi (fun e => hF (by cases e; rfl)), fun i hi => .inl hi⟩

set_option maxHeartbeats 4000000 in
theorem markOrderS_calls (lo hi : Nat) (l : List Ordr) (k : Int) (w : World) (h : OrdK lo hi l w) (hhi : hi ≤ w.heap.size) (hl : ordsL l ≤ 1048576) (h0 : 0 ≤ k) (hk : k ≤ 1000000000) :
    Calls Try.prog 42 #[.slice (some ⟨lo, 0, none⟩) l.length l.length, .int .i64 k] w fun e w' => ∃ q : Int, e = .returned (.int .i64 q) ∧ k ≤ q ∧ q ≤ k + 10000000 ∧ Turn (fun i => lo ≤ i ∧ i < hi) (fun i => lo ≤ i ∧ i < hi) w w' := by
  obtain ⟨f, g, h⟩ := h
  have hw0 := h.weak
  have hll := ordsL_len l
  replace hw0 := Lib.hid hw0
  clear h
  go_enter Try.func42, Try.ntmps42
  go_wp2_with fail
  go_loopw [1, 5] (fun x i wr => ∃ (j : Nat) (q : Int), j ≤ l.length ∧ i = .int .i64 j ∧ x = .int .i64 q ∧ k ≤ q ∧ Hid (q ≤ k + ordsL (l.take j)) ∧ Hid (OrdT false lo hi lo l l.length f g wr) ∧ Hid (Turn (fun i => lo ≤ i ∧ i < hi) (fun i => lo ≤ i ∧ i < hi) w wr)) (fun _ i _ => l.length - (intOf i).toNat)
  case atStart => exact ⟨0, k, Nat.zero_le _, rfl, rfl, Int.le_refl _, Lib.hid (by simp [ordsL]), hw0, Lib.hid (Turn.refl _ _)⟩
  case round =>
    obtain ⟨j, q, hj, rfl, rfl, hkq, hq, hO, hT⟩ := hrel
    have hwz := hT.out.size
    by_cases hlt : j < l.length
    · obtain ⟨cur, c1, c2, c3⟩ := hO.out.blk
      obtain ⟨d1, d2⟩ := c3 j hlt hlt
      have x1 : wr.cell? ⟨lo, j * 2, none⟩ = some (.slice (some ⟨f j, 0, none⟩) l[j].1.length l[j].1.length) := (cellm c1 _).trans d1
      have x2 : wr.cell? ⟨lo, j * 2 + 1, none⟩ = some (.slice (some ⟨g j, 0, none⟩) l[j].2.length l[j].2.length) := (cellm c1 _).trans d2
      have hor := hO.out.ord j hlt hlt
      obtain ⟨r1, r2⟩ := hO.out.rows j hlt hlt
      have hmem := ordsL_mem l l[j] (List.getElem_mem hlt)
      have htk : ordsL (l.take (j + 1)) = ordsL (l.take j) + (1 + l[j].1.length + l[j].2.length) := by rw [List.take_succ_eq_append_getElem hlt, ordsL_snoc]
      have hle : ordsL (l.take (j + 1)) ≤ ordsL l := by
        have : ∀ (a b : List Ordr), ordsL (a ++ b) = ordsL a + ordsL b := fun a b => by
          induction a with
          | nil => simp [ordsL]
          | cons x a ih => rw [List.cons_append, ordsL, ih, ordsL]; omega
        have h2 := this (l.take (j + 1)) (l.drop (j + 1))
        rw [List.take_append_drop] at h2
        have := ordsL_pos (l.drop (j + 1))
        omega
      have hq2 := hq.out
      have k1 := r1.mark (by omega) q (by omega) (by omega)
      have hlow : lo < wr.heap.size := block_lt c1
      replace k1 := Lib.hid k1
      replace htk := Lib.hid htk
      replace hle := Lib.hid hle
      replace r2 := Lib.hid r2
      clear c1 c2 c3 d1 d2 r1
      go_wp2_with fail
      refine k1.out.mono ?_
      rintro e w2 ⟨rfl, i1, t1⟩
      have x3 : w2.cell? ⟨lo, j * 2 + 1, none⟩ = some (.slice (some ⟨g j, 0, none⟩) l[j].2.length l[j].2.length) := (t1.cell _ hlow (fun e => by omega)).trans x2
      have s2 := t1.size
      have r3 := r2.out.keep (t1.block _ (by have := r2.out.lt; exact this) (fun e => by omega))
      have k2 := r3.mark (by omega) (q + l[j].1.length) (by omega) (by have := hle.out; have := htk.out; omega)
      replace k2 := Lib.hid k2
      replace i1 := Lib.hid i1
      replace t1 := Lib.hid t1
      clear k1 r3 x1 x2
      go_wp2_with fail
      refine k2.out.mono ?_
      rintro e w3 ⟨rfl, i2, t2⟩
      have hblk : ∀ b, b < wr.heap.size → b ≠ f j → b ≠ g j → w3.heap[b]? = wr.heap[b]? := fun b hb e1 e2 => (t2.block b (by omega) e2).trans (t1.out.block b hb e1)
      have hO3 : OrdT false lo hi lo l l.length f g w3 := by
        obtain ⟨cur, c1, c2, c3⟩ := hO.out.blk
        refine ⟨hO.out.hlo, hO.out.hhi, ⟨cur, (hblk lo hlow (by omega) (by omega)).trans c1, c2, c3⟩, fun i hi hj => ?_, hO.out.ord, hO.out.apart⟩
        have ho := hO.out.ord i hi hj
        by_cases e : i = j
        · subst e
          exact ⟨i1.out.keep (t2.block _ i1.out.lt (fun e => by omega)), i2⟩
        · obtain ⟨q1, q2⟩ := hO.out.rows i hi hj
          have hne : g i < f j ∨ g j < f i := by
            by_cases h : i < j
            · exact .inl (hO.out.apart i j h hlt hlt)
            · exact .inr (hO.out.apart j i (by omega) hi hi)
          exact ⟨q1.keep (hblk _ q1.lt (by omega) (by omega)), q2.keep (hblk _ q2.lt (by omega) (by omega))⟩
      have hT3 : Turn (fun i => lo ≤ i ∧ i < hi) (fun i => lo ≤ i ∧ i < hi) w w3 :=
        ⟨t2.os.trans (t1.out.os.trans hT.out.os), t2.tape.trans (t1.out.tape.trans hT.out.tape), t2.output.trans (t1.out.output.trans hT.out.output), Nat.le_trans hwz (Nat.le_trans s2 t2.size), fun i hi hF => (hblk i (by omega) (by intro e; subst e; exact hF ⟨by omega, by omega⟩) (by intro e; subst e; exact hF ⟨by omega, by omega⟩)).trans (hT.out.block i hi hF), fun i h => .inl h⟩
      have hq3 : q + l[j].1.length + l[j].2.length ≤ k + ordsL (l.take (j + 1)) := by have := htk.out; omega
      replace hO3 := Lib.hid hO3
      replace hT3 := Lib.hid hT3
      replace hq3 := Lib.hid hq3
      clear t2 i2 hblk k2 x3 hO hT hq
      go_wp2_with fail
      go_roundw
      case rel => exact ⟨j + 1, _, by omega, by go_num, rfl, by omega, hq3, hO3, hT3⟩
      case measure => simp [intOf]; omega
    · have e : l.take j = l := List.take_of_length_le (by omega)
      have hq2 := hq.out
      rw [e] at hq2
      replace e := Lib.hid e
      go_wp2_with fail
      go_ret
      exact ⟨q, rfl, hkq, by omega, hT.out⟩
end Go.Proofs.Ytpccgdkidnkppaa
