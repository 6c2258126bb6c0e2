import Derived.Test.YtagmdljdcnmpdaaSpecAll
import Derived.Test.YtagmdljdcnmpdaaDrawAll
import Derived.Test.YtagmdljdcnmpdaaTaskValue
set_option linter.unusedVariables false
set_option linter.unusedSimpArgs false
namespace Go.Proofs.Ytagmdljdcnmpdaa
open Go Go.RowKit

theorem specAllL_false {S : Sh} : ∀ (ks out all : List Int), specAllL S ks out = (all, false) → all = [] := by
  intro ks
  induction ks with
  | nil => intro out all h; cases h
  | cons k ks ih =>
    intro out all h
    rw [specAllL] at h
    by_cases hk : (specKeyP S k).2 = true
    · rw [if_pos hk] at h; exact ih _ _ h
    · rw [if_neg hk] at h; cases h; rfl

set_option maxHeartbeats 4000000 in
theorem fnBuildAll_calls (A : Option Addr) (c : Nat) (bytes : List Int) (w : World) (hx : RowAt (fun b : Int => Value.int .u8 b) w.heap.size w A bytes) (hl : bytes.length ≤ c) (hc : c ≤ maxLen) (hby : ∀ b ∈ bytes, 0 ≤ b ∧ b ≤ 255) :
    Calls Try.prog 5 #[.slice A bytes.length c] w fun e w' => e = .returned (.bool true) ∧ Below w.heap.size w w' := by
  have hcm := hc
  unfold maxLen at hcm
  by_cases hbig : 1048576 < bytes.length
  · clear hx hby
    go_enter Try.func5, Try.ntmps5
    go_wp2_with fail
    go_ret
    exact ⟨rfl, Below.refl _ _⟩
  have hdr := drawBuildAll_calls A c bytes w.heap.size w w (Below.refl _ _) (Nat.le_refl _) hx hl hc hby
  replace hdr := Lib.hid hdr
  clear hx hby
  go_enter Try.func5, Try.ntmps5
  go_wp2_with fail
  refine hdr.out.mono ?_
  rintro e w1 ⟨Am, cm, At, ct, made, tasks, Ai, ci, inputs, rfl, ha, hb1⟩
  have hli : inputs.length ≤ maxLen := Nat.le_trans ha.icap ha.imax
  have hnod : ∀ T ∈ tasks, nodes T ≤ 1000000000 := fun T hT => by have := ha.nodes T hT; omega
  have hal := below_al (Below.refl w1.heap.size w1) (.cells #[.slice Am made.length cm, .slice At tasks.length ct] 26 (0, 0))
  have hz1 : w1.heap.size ≤ (w1.alloc (.cells #[.slice Am made.length cm, .slice At tasks.length ct] 26 (0, 0))).heap.size := by simp
  by_cases hin : sheetOk made tasks = true ∧ takesOk made.length inputs = true
  case neg =>
    have hin2 : inputsOk made tasks inputs = false := by
      rw [inputsOk]
      cases h1 : sheetOk made tasks with
      | false => rfl
      | true =>
        cases h2 : takesOk made.length inputs with
        | false => rfl
        | true => exact (hin ⟨h1, h2⟩).elim
    have hba := fun w2 (hw : Below w1.heap.size w1 w2) => buildAll_bad Am At Ai cm ct ci made tasks inputs w1.heap.size w1 w2 ha.sheet ha.ints hli hw hw.size (fun a => by cases hb : takesOk made.length inputs with | false => rfl | true => exact (hin ⟨a, hb⟩).elim)
    have hsa := fun w2 (hw : Below w1.heap.size w1 w2) => specBuildAll_bad Am At Ai cm ct ci made tasks inputs w1.heap.size w1 w2 ha.sheet ha.ints hli hnod hw hw.size hin2
    have hbr := fun (A2 : Option Addr) (c2 : Nat) (w2 : World) => brInts_calls none 0 [] A2 c2 [] w2 (RowAt.nil _ _ _ _) (RowAt.nil _ _ _ _) (by simp) (by simp)
    replace hba := Lib.hid hba
    replace hsa := Lib.hid hsa
    replace hbr := Lib.hid hbr
    replace hal := Lib.hid hal
    replace hb1 := Lib.hid hb1
    clear ha hnod hin hin2 hli hdr
    go_wp2_with fail
    refine (hba.out _ hal.out).mono ?_
    rintro e w2 ⟨rfl, h2⟩
    have x0 : w2.cell? ⟨w1.heap.size, 0, none⟩ = some (.slice Am made.length cm) := (h2.cell (p := ⟨w1.heap.size, 0, none⟩) (by simp)).trans (by simp)
    have x1 : w2.cell? ⟨w1.heap.size, 1, none⟩ = some (.slice At tasks.length ct) := (h2.cell (p := ⟨w1.heap.size, 1, none⟩) (by simp)).trans (by simp)
    have s2 : w1.heap.size < w2.heap.size := by have := h2.size; simp at this; omega
    have b2 := hal.out.trans (h2.mono hz1)
    replace b2 := Lib.hid b2
    clear h2
    go_wp2_with fail
    refine (hsa.out _ b2.out).mono ?_
    rintro e w3 ⟨v3, rfl, hown, h3⟩
    have b3 := b2.out.trans (h3.mono (Nat.le_of_lt s2))
    obtain ⟨Av, cv, rfl, -⟩ := ownsRow_ints hown
    replace b3 := Lib.hid b3
    clear h3 x0 x1 hown
    dsimp only
    go_wp2_with fail
    refine (hbr.out Av cv _).mono ?_
    rintro e w4 ⟨rfl, h4⟩
    have b4 := b3.out.trans (h4.mono b3.out.size)
    replace b4 := Lib.hid b4
    clear h4
    go_wp2_with fail
    go_loopw [9] (fun i wr => i = .int .i64 0 ∧ wr = w4) (fun i _ => 0)
    case atStart => exact ⟨rfl, rfl⟩
    case round =>
      obtain ⟨rfl, rfl⟩ := hrel
      go_wp2_with fail
      go_ret
      exact ⟨rfl, hb1.out.trans (b4.out.mono hb1.out.size)⟩
  obtain ⟨hin1, hin2⟩ := hin
  obtain ⟨tks, rfl, hS⟩ := ok_sh hin1 hin2
  have hE : MkEnv.Good ⟨Am, cm, At, ct, Ai, ci, w1.heap.size, w1⟩ ⟨made, tks, inputs⟩ := ⟨ha.sheet, ha.ints, ha.icap, ha.imax, hS⟩
  have hba := fun w2 (hw : Below w1.heap.size w1 w2) => buildAll_good ⟨Am, cm, At, ct, Ai, ci, w1.heap.size, w1⟩ ⟨made, tks, inputs⟩ hE w2 hw hw.size
  have hsa := fun w2 (hw : Below w1.heap.size w1 w2) => specBuildAll_good ⟨Am, cm, At, ct, Ai, ci, w1.heap.size, w1⟩ ⟨made, tks, inputs⟩ hE hnod w2 hw hw.size
  rw [← all_same hS] at hsa
  have hlaw := fun all h => all_law hS (all := all) h
  have hnil := fun all h => specAllL_false (S := ⟨made, tks, inputs⟩) (keysN made.length) [] all h
  have hsame : buildAllP ⟨made, tks, inputs⟩ = specAllL ⟨made, tks, inputs⟩ (keysN made.length) [] := all_same hS
  have htv := fun (q : Nat) (hqt : q < tks.length) (all : List Int) (Ax : Option Addr) (cx : Nat) (A2 : Option Addr) (c2 : Nat) (w5 : World) => taskValue_good tks[q] A2 c2 all Ax cx w5.heap.size w5 w5 (Below.refl _ _) (Nat.le_refl _) (hS.tks _ (List.getElem_mem _)) (hS.okT hqt)
  have hml : made.length ≤ 10 := hS.ten
  have hlt : made.length = tks.length := hS.len
  have hil : inputs.length = made.length := hS.ins
  have hunm : ∀ q (h : q < made.length) (h2 : q < inputs.length), made[q] = false → (specKeyP ⟨made, tks, inputs⟩ q).1 = inputs[q] := fun q h h2 hm => by
    have hk : mkK made q = false := by
      unfold mkK
      rw [if_neg (by omega), Int.toNat_natCast, getD_at _ h]; exact hm
    rw [specKeyP_unmade hk]
    exact atK_in (by simp only; omega)
  have hmk : ∀ q (h : q < made.length), made[q] = true → mkK made q = true := fun q h hm => by
    unfold mkK
    rw [if_neg (by omega), Int.toNat_natCast, getD_at _ h]; exact hm
  dsimp only at hba hsa htv hlaw
  simp only [List.length_map] at hal hz1 ⊢
  generalize hRq : buildAllP ⟨made, tks, inputs⟩ = R at hba hsa
  obtain ⟨all, ok⟩ := R
  have hall : (ok = false ∧ all = []) ∨ (ok = true ∧ all.length = made.length) := by
    cases ok with
    | false => exact .inl ⟨rfl, hnil all (by rw [← hsame, hRq])⟩
    | true => exact .inr ⟨rfl, (hlaw all hRq).1⟩
  have hal10 : all.length ≤ 10 := by
    rcases hall with ⟨_, rfl⟩ | ⟨_, h⟩
    · simp
    · omega
  replace hba := Lib.hid hba
  replace hsa := Lib.hid hsa
  replace htv := Lib.hid htv
  replace hlaw := Lib.hid hlaw
  replace hal := Lib.hid hal
  replace hb1 := Lib.hid hb1
  replace ha := Lib.hid ha
  replace hRq := Lib.hid hRq
  replace hmk := Lib.hid hmk
  replace hunm := Lib.hid hunm
  replace hall := Lib.hid hall
  replace hlt := Lib.hid hlt
  replace hil := Lib.hid hil
  clear hnod hin1 hin2 hli hdr hS hE hsame hnil
  go_wp2_with fail
  refine (hba.out _ hal.out).mono ?_
  rintro e w2 ⟨v2, rfl, hown2, h2⟩
  have x0 : w2.cell? ⟨w1.heap.size, 0, none⟩ = some (.slice Am made.length cm) := (h2.cell (p := ⟨w1.heap.size, 0, none⟩) (by simp)).trans (by simp)
  have x1 : w2.cell? ⟨w1.heap.size, 1, none⟩ = some (.slice At tks.length ct) := (h2.cell (p := ⟨w1.heap.size, 1, none⟩) (by simp)).trans (by simp)
  have s2 : w1.heap.size < w2.heap.size := by have := h2.size; simp at this; omega
  have b2 := hal.out.trans (h2.mono hz1)
  obtain ⟨A2, c2, rfl, ha1, ha2, ha3⟩ := ownsRow_ints hown2
  replace b2 := Lib.hid b2
  replace ha3 := Lib.hid ha3
  clear h2 hown2
  dsimp only at ha1 ha3 ⊢
  go_wp2_with fail
  refine (hsa.out _ b2.out).mono ?_
  rintro e w3 ⟨v3, rfl, hown3, h3⟩
  have y0 := kept_cell h3 s2 x0
  have y1 := kept_cell h3 s2 x1
  have s3 : w1.heap.size < w3.heap.size := by have := h3.size; omega
  have b3 := b2.out.trans (h3.mono (Nat.le_of_lt s2))
  obtain ⟨A3, c3, rfl, hd1, hd2, hd3⟩ := ownsRow_ints hown3
  dsimp only at hd1 hd3 ⊢
  have ha4 : IntsAt w3.heap.size w3 A2 all := ha3.out.up h3 h3.size
  have hbr := brInts_calls A2 c2 all A3 c3 all w3 ha4 hd3 (Nat.le_trans ha1 ha2) (Nat.le_trans ha1 ha2)
  rw [decide_eq_true rfl] at hbr
  replace hbr := Lib.hid hbr
  replace ha4 := Lib.hid ha4
  replace b3 := Lib.hid b3
  clear h3 x0 x1 hown3 hd3 ha3
  go_wp2_with fail
  refine hbr.out.mono ?_
  rintro e w4 ⟨rfl, h4⟩
  have z0 := kept_cell h4 s3 y0
  have z1 := kept_cell h4 s3 y1
  have s4 : w1.heap.size < w4.heap.size := by have := h4.size; omega
  have b4 := b3.out.trans (h4.mono (Nat.le_of_lt s3))
  have ha5 : IntsAt w4.heap.size w4 A2 all := ha4.out.up h4 h4.size
  replace b4 := Lib.hid b4
  replace ha5 := Lib.hid ha5
  clear h4 y0 y1 ha4 hbr
  have hokk : (ok != ok) = false := by cases ok <;> rfl
  go_wp2_with fail
  go_loopw [9] (fun i wr => ∃ (j : Nat), j ≤ all.length ∧ i = .int .i64 j ∧ Hid (Below w4.heap.size w4 wr)) (fun i _ => all.length - (intOf i).toNat)
  case atStart => exact ⟨0, Nat.zero_le _, rfl, Lib.hid (Below.refl _ _)⟩
  case round =>
    obtain ⟨j, hj, rfl, hw⟩ := hrel
    by_cases hja : j < all.length
    · have hok : ok = true := by
        rcases hall.out with ⟨_, h⟩ | ⟨h, _⟩
        · rw [h] at hja; simp at hja
        · exact h
      subst hok
      obtain ⟨l1, l2, l3, l4⟩ := hlaw.out all hRq.out
      have hjm : j < made.length := by omega
      have hjt : j < tks.length := by have := hlt.out; omega
      have hji : j < inputs.length := by have := hil.out; omega
      have hval4 : valsOk all = true := by
        rw [valsOk, vals_iff.2 l2, Bool.and_true, decide_eq_true_eq]; omega
      have bw : Below w1.heap.size w1 wr := b4.out.trans (hw.out.mono (Nat.le_of_lt s4))
      have sw : w4.heap.size ≤ wr.heap.size := hw.out.size
      have y0 := kept_cell hw.out s4 z0
      have y1 := kept_cell hw.out s4 z1
      obtain ⟨bt, ot, At', ct', et, hbt, ht0, ht1, ht2, htc, htm, htp⟩ := ha.out.sheet.tasks.at bw j (by simpa using hjt)
      simp only [List.getElem_map] at ht0 ht1 ht2 htc htp
      obtain ⟨bm, om, em, hbm, cmq⟩ := ha.out.sheet.made.at bw (by omega) j hjm
      obtain ⟨bi, oi, ei, hbi, ciq⟩ := ha.out.ints.at bw (by omega) j hji
      obtain ⟨ba, oa, ea, hba4, caq⟩ := ha5.out.at hw.out sw j hja
      have htv2 := htv.out j hjt all A2 c2 At' ct' wr htc htm (PartsIs.up bw (by omega) _ _ _ htp) (Nat.le_trans ha1 ha2) (ha5.out.up hw.out sw) hval4
      have hval := fun h => l4 j hjt (hmk.out j hjm h)
      have huj := hunm.out j hjm hji
      rw [← l3 j hja] at hval huj
      have hbt4 : bt < wr.heap.size := by omega
      replace htv2 := Lib.hid htv2
      replace hval := Lib.hid hval
      replace huj := Lib.hid huj
      replace l3 := Lib.hid l3
      replace l2 := Lib.hid l2
      replace l1 := Lib.hid l1
      replace htp := Lib.hid htp
      replace bw := Lib.hid bw
      subst et em ei ea
      clear l4 hval4
      go_wp2_with fail
      refine htv2.out.mono ?_
      rintro e w5 ⟨rfl, h5⟩
      have s5 : w1.heap.size < wr.heap.size := by omega
      have v0 := kept_cell h5 s5 y0
      have c5 := kept_cell h5 hba4 caq
      have m5 := kept_cell h5 hbm cmq
      have i5 := kept_cell h5 hbi ciq
      have z5 := h5.size
      have b5 := hw.out.trans (h5.mono sw)
      replace b5 := Lib.hid b5
      clear h5 htv2 caq cmq ciq ht0 ht1 ht2 y0 y1
      cases hmq : made[j] with
      | false =>
        rw [hmq] at m5
        have huj2 := huj.out hmq
        rw [← huj2] at i5
        replace huj2 := Lib.hid huj2
        replace hmq := Lib.hid hmq
        clear hval
        go_wp2_with fail
        go_region
        go_wp2_with fail
        go_roundw
        case rel => exact ⟨j + 1, by omega, by go_num, Lib.hid b5.out.drew⟩
        case measure => simp [intOf]; omega
      | true =>
        rw [hmq] at m5
        have hval2 := hval.out hmq
        rw [hval2]
        replace hval2 := Lib.hid hval2
        replace hmq := Lib.hid hmq
        clear huj
        go_wp2_with fail
        go_region
        go_wp2_with fail
        go_roundw
        case rel => exact ⟨j + 1, by omega, by go_num, Lib.hid b5.out.drew⟩
        case measure => simp [intOf]; omega
    · go_wp2_with fail
      go_ret
      exact ⟨rfl, hb1.out.trans ((b4.out.trans (hw.out.mono (Nat.le_of_lt s4))).mono hb1.out.size)⟩
end Go.Proofs.Ytagmdljdcnmpdaa
