import Derived.Test.YtagmdljdcnmpdaaPlainAll
import Derived.Test.YtagmdljdcnmpdaaDrawKey
import Derived.Test.YtagmdljdcnmpdaaTaskValue
set_option linter.unusedVariables false
set_option linter.unusedSimpArgs false
namespace Go.Proofs.Ytagmdljdcnmpdaa
open Go Go.RowKit

set_option maxHeartbeats 2000000 in
theorem fnBuildKey_calls (A : Option Addr) (c : Nat) (bytes : List Int) (w : World) (hx : RowAt (fun b : Int => Value.int .u8 b) w.heap.size w A bytes) (hl : bytes.length ≤ c) (hc : c ≤ maxLen) (hby : ∀ b ∈ bytes, 0 ≤ b ∧ b ≤ 255) :
    Calls Try.prog 3 #[.slice A bytes.length c] w fun e w' => e = .returned (.bool true) ∧ Below w.heap.size w w' := by
  have hcm := hc
  unfold maxLen at hcm
  by_cases hbig : 1048576 < bytes.length
  · clear hx hby
    go_enter Try.func3, Try.ntmps3
    go_wp2_with fail
    go_ret
    exact ⟨rfl, Below.refl _ _⟩
  have hdr := drawBuildKey_calls A c bytes w.heap.size w w (Below.refl _ _) (Nat.le_refl _) hx hl hc hby
  replace hdr := Lib.hid hdr
  clear hx hby
  go_enter Try.func3, Try.ntmps3
  go_wp2_with fail
  refine hdr.out.mono ?_
  rintro e w1 ⟨Am, cm, At, ct, made, tasks, Ai, ci, inputs, key, rfl, hk0, hk9, ha, hb1⟩
  have hli : inputs.length ≤ maxLen := Nat.le_trans ha.icap ha.imax
  have hnod : ∀ T ∈ tasks, nodes T ≤ 1000000000 := fun T hT => by have := ha.nodes T hT; omega
  have hal := below_al (Below.refl w1.heap.size w1) (.cells #[.slice Am made.length cm, .slice At tasks.length ct] 26 (0, 0))
  have hz1 : w1.heap.size ≤ (w1.alloc (.cells #[.slice Am made.length cm, .slice At tasks.length ct] 26 (0, 0))).heap.size := by simp
  by_cases hin : sheetOk made tasks = true ∧ takesOk made.length inputs = true
  case neg =>
    have hbk := fun w2 (hw : Below w1.heap.size w1 w2) => buildKey_bad Am At Ai cm ct ci made tasks inputs w1.heap.size w1 key w2 ha.sheet ha.ints hli hw hw.size (fun a b => (hin ⟨a, b⟩).elim)
    have hsk := fun w2 (hw : Below w1.heap.size w1 w2) => specBuildKey_bad Am At Ai cm ct ci made tasks inputs w1.heap.size w1 key w2 ha.sheet ha.ints hli hnod hw hw.size (fun a b => (hin ⟨a, b⟩).elim)
    have hba := fun w2 (hw : Below w1.heap.size w1 w2) => buildAll_bad Am At Ai cm ct ci made tasks inputs w1.heap.size w1 w2 ha.sheet ha.ints hli hw hw.size (fun a => by cases hb : takesOk made.length inputs with | false => rfl | true => exact (hin ⟨a, hb⟩).elim)
    replace hbk := Lib.hid hbk
    replace hsk := Lib.hid hsk
    replace hba := Lib.hid hba
    replace hal := Lib.hid hal
    replace hb1 := Lib.hid hb1
    clear ha hnod hin hli hdr
    go_wp2_with fail
    refine (hbk.out _ hal.out).mono ?_
    rintro e w2 ⟨rfl, h2⟩
    have x0 : w2.cell? ⟨w1.heap.size, 0, none⟩ = some (.slice Am made.length cm) := (h2.cell (p := ⟨w1.heap.size, 0, none⟩) (by simp)).trans (by simp)
    have x1 : w2.cell? ⟨w1.heap.size, 1, none⟩ = some (.slice At tasks.length ct) := (h2.cell (p := ⟨w1.heap.size, 1, none⟩) (by simp)).trans (by simp)
    have s2 : w1.heap.size < w2.heap.size := by have := h2.size; simp at this; omega
    have b2 := hal.out.trans (h2.mono hz1)
    replace b2 := Lib.hid b2
    clear h2
    go_wp2_with fail
    refine (hsk.out _ b2.out).mono ?_
    rintro e w3 ⟨rfl, h3⟩
    have y0 := kept_cell h3 s2 x0
    have y1 := kept_cell h3 s2 x1
    have s3 : w1.heap.size < w3.heap.size := by have := h3.size; omega
    have b3 := b2.out.trans (h3.mono (Nat.le_of_lt s2))
    replace b3 := Lib.hid b3
    clear h3 x0 x1
    go_wp2_with fail
    refine (hba.out _ b3.out).mono ?_
    rintro e w4 ⟨rfl, h4⟩
    have b4 := b3.out.trans (h4.mono (Nat.le_of_lt s3))
    replace b4 := Lib.hid b4
    clear h4 y0 y1
    go_wp2_with fail
    go_ret
    exact ⟨rfl, hb1.out.trans (b4.out.mono hb1.out.size)⟩
  obtain ⟨hin1, hin2⟩ := hin
  obtain ⟨tks, rfl, hS⟩ := ok_sh hin1 hin2
  have hE : MkEnv.Good ⟨Am, cm, At, ct, Ai, ci, w1.heap.size, w1⟩ ⟨made, tks, inputs⟩ := ⟨ha.sheet, ha.ints, ha.icap, ha.imax, hS⟩
  have hba := fun w2 (hw : Below w1.heap.size w1 w2) => buildAll_good ⟨Am, cm, At, ct, Ai, ci, w1.heap.size, w1⟩ ⟨made, tks, inputs⟩ hE w2 hw hw.size
  by_cases hkr : 0 ≤ key ∧ key < made.length
  case neg =>
    have hbk := fun w2 (hw : Below w1.heap.size w1 w2) => buildKey_bad Am At Ai cm ct ci made (tks.map Tk.enc) inputs w1.heap.size w1 key w2 ha.sheet ha.ints hli hw hw.size (fun _ _ => hkr)
    have hsk := fun w2 (hw : Below w1.heap.size w1 w2) => specBuildKey_bad Am At Ai cm ct ci made (tks.map Tk.enc) inputs w1.heap.size w1 key w2 ha.sheet ha.ints hli hnod hw hw.size (fun _ _ => hkr)
    simp only [List.length_map] at hbk hsk hal hz1 ⊢
    generalize buildAllP ⟨made, tks, inputs⟩ = R at hba
    obtain ⟨all, ok⟩ := R
    replace hbk := Lib.hid hbk
    replace hsk := Lib.hid hsk
    replace hba := Lib.hid hba
    replace hal := Lib.hid hal
    replace hb1 := Lib.hid hb1
    clear ha hnod hin1 hin2 hli hdr hS hE hkr
    go_wp2_with fail
    refine (hbk.out _ hal.out).mono ?_
    rintro e w2 ⟨rfl, h2⟩
    have x0 : w2.cell? ⟨w1.heap.size, 0, none⟩ = some (.slice Am made.length cm) := (h2.cell (p := ⟨w1.heap.size, 0, none⟩) (by simp)).trans (by simp)
    have x1 : w2.cell? ⟨w1.heap.size, 1, none⟩ = some (.slice At tks.length ct) := (h2.cell (p := ⟨w1.heap.size, 1, none⟩) (by simp)).trans (by simp)
    have s2 : w1.heap.size < w2.heap.size := by have := h2.size; simp at this; omega
    have b2 := hal.out.trans (h2.mono hz1)
    replace b2 := Lib.hid b2
    clear h2
    go_wp2_with fail
    refine (hsk.out _ b2.out).mono ?_
    rintro e w3 ⟨rfl, h3⟩
    have y0 := kept_cell h3 s2 x0
    have y1 := kept_cell h3 s2 x1
    have s3 : w1.heap.size < w3.heap.size := by have := h3.size; omega
    have b3 := b2.out.trans (h3.mono (Nat.le_of_lt s2))
    replace b3 := Lib.hid b3
    clear h3 x0 x1
    go_wp2_with fail
    refine (hba.out _ b3.out).mono ?_
    rintro e w4 ⟨v4, rfl, hown, h4⟩
    have b4 := b3.out.trans (h4.mono (Nat.le_of_lt s3))
    replace b4 := Lib.hid b4
    clear h4 y0 y1 hown
    dsimp only
    cases ok with
    | false =>
      go_wp2_with fail
      go_ret
      exact ⟨rfl, hb1.out.trans (b4.out.mono hb1.out.size)⟩
    | true =>
      go_wp2_with fail
      go_ret
      exact ⟨rfl, hb1.out.trans (b4.out.mono hb1.out.size)⟩
  obtain ⟨hkr0, hkr1⟩ := hkr
  obtain ⟨q, rfl⟩ := Int.eq_ofNat_of_zero_le hkr0
  have hq : q < made.length := by omega
  have hqt : q < tks.length := by have := hS.len; simp only at this; omega
  have hbk := fun w2 (hw : Below w1.heap.size w1 w2) => buildKey_good ⟨Am, cm, At, ct, Ai, ci, w1.heap.size, w1⟩ ⟨made, tks, inputs⟩ hE q w2 hw hw.size hkr0 hkr1
  have hsk := fun w2 (hw : Below w1.heap.size w1 w2) => specBuildKey_good ⟨Am, cm, At, ct, Ai, ci, w1.heap.size, w1⟩ ⟨made, tks, inputs⟩ hE hnod q w2 hw hw.size hkr0 hkr1
  have hsp := (build_spec hS q).1
  rw [hsp] at hbk
  have hlaw := fun all h => all_law hS (all := all) h
  have htv := fun (all : List Int) (Ax : Option Addr) (cx : Nat) (A2 : Option Addr) (c2 : Nat) (w5 : World) => taskValue_good tks[q] A2 c2 all Ax cx w5.heap.size w5 w5 (Below.refl _ _) (Nat.le_refl _) (hS.tks _ (List.getElem_mem _)) (hS.okT hqt)
  have hml : made.length ≤ 10 := hS.ten
  dsimp only at hbk hsk hba htv hlaw
  simp only [List.length_map] at hal hz1 ⊢
  generalize hRq : buildAllP ⟨made, tks, inputs⟩ = R at hba
  obtain ⟨all, ok⟩ := R
  generalize hX : specKeyP ⟨made, tks, inputs⟩ q = X at hbk hsk
  obtain ⟨x, fine⟩ := X
  have hmk : made[q] = true → mkK made q = true := fun h => by
    unfold mkK
    rw [if_neg (by omega), Int.toNat_natCast, getD_at _ hq]; exact h
  replace hbk := Lib.hid hbk
  replace hsk := Lib.hid hsk
  replace hba := Lib.hid hba
  replace htv := Lib.hid htv
  replace hlaw := Lib.hid hlaw
  replace hal := Lib.hid hal
  replace hb1 := Lib.hid hb1
  replace ha := Lib.hid ha
  replace hRq := Lib.hid hRq
  replace hX := Lib.hid hX
  replace hmk := Lib.hid hmk
  clear hnod hin1 hin2 hli hdr hS hE hsp
  go_wp2_with fail
  refine (hbk.out _ hal.out).mono ?_
  rintro e w2 ⟨rfl, h2⟩
  have x0 : w2.cell? ⟨w1.heap.size, 0, none⟩ = some (.slice Am made.length cm) := (h2.cell (p := ⟨w1.heap.size, 0, none⟩) (by simp)).trans (by simp)
  have x1 : w2.cell? ⟨w1.heap.size, 1, none⟩ = some (.slice At tks.length ct) := (h2.cell (p := ⟨w1.heap.size, 1, none⟩) (by simp)).trans (by simp)
  have s2 : w1.heap.size < w2.heap.size := by have := h2.size; simp at this; omega
  have b2 := hal.out.trans (h2.mono hz1)
  replace b2 := Lib.hid b2
  clear h2
  go_wp2_with fail
  refine (hsk.out _ b2.out).mono ?_
  rintro e w3 ⟨rfl, h3⟩
  have y0 := kept_cell h3 s2 x0
  have y1 := kept_cell h3 s2 x1
  have s3 : w1.heap.size < w3.heap.size := by have := h3.size; omega
  have b3 := b2.out.trans (h3.mono (Nat.le_of_lt s2))
  replace b3 := Lib.hid b3
  clear h3 x0 x1
  dsimp only
  go_wp2_with fail
  refine (hba.out _ b3.out).mono ?_
  rintro e w4 ⟨v4, rfl, hown, h4⟩
  have z0 := kept_cell h4 s3 y0
  have z1 := kept_cell h4 s3 y1
  have s4 : w1.heap.size < w4.heap.size := by have := h4.size; omega
  have b4 := b3.out.trans (h4.mono (Nat.le_of_lt s3))
  replace b4 := Lib.hid b4
  clear h4 y0 y1
  dsimp only at hown ⊢
  cases ok with
  | false =>
    replace hown := Lib.hid hown
    go_wp2_with fail
    go_ret
    exact ⟨rfl, hb1.out.trans (b4.out.mono hb1.out.size)⟩
  | true =>
    cases fine with
    | false =>
      replace hown := Lib.hid hown
      go_wp2_with fail
      go_ret
      exact ⟨rfl, hb1.out.trans (b4.out.mono hb1.out.size)⟩
    | true =>
      obtain ⟨l1, l2, l3, l4⟩ := hlaw.out all hRq.out
      have hqa : q < all.length := by omega
      have hall := l3 q hqa
      have hval := fun h => l4 q hqt (hmk.out h)
      rw [hX.out] at hall hval
      dsimp only at hall hval
      obtain ⟨Aa, ca, rfl, ha1, ha2, ha3⟩ := ownsRow_ints hown
      have hval4 : valsOk all = true := by
        rw [valsOk, vals_iff.2 l2, Bool.and_true, decide_eq_true_eq]; omega
      obtain ⟨bt, ot, At', ct', et, hbt, ht0, ht1, ht2, htc, htm, htp⟩ := ha.out.sheet.tasks.at b4.out q (by simpa using hqt)
      simp only [List.getElem_map] at ht0 ht1 ht2 htc htp
      obtain ⟨bm, om, em, hbm, cmq⟩ := ha.out.sheet.made.at b4.out (Nat.le_of_lt s4) q hq
      obtain ⟨ba, oa, ea, hba4, caq⟩ := ha3 q hqa
      rw [hall] at caq
      have htv2 := htv.out all Aa ca At' ct' w4 htc htm (PartsIs.up b4.out (Nat.le_of_lt s4) _ _ _ htp) (Nat.le_trans ha1 ha2) ha3 hval4
      subst et em ea
      have hbt4 : bt < w4.heap.size := by omega
      replace htv2 := Lib.hid htv2
      replace hval := Lib.hid hval
      replace hall := Lib.hid hall
      replace ha3 := Lib.hid ha3
      replace htp := Lib.hid htp
      replace l3 := Lib.hid l3
      replace l2 := Lib.hid l2
      replace l1 := Lib.hid l1
      clear hown l4 hval4
      go_wp2_with fail
      refine htv2.out.mono ?_
      rintro e w5 ⟨rfl, h5⟩
      have v0 := kept_cell h5 s4 z0
      have v1 := kept_cell h5 s4 z1
      have c5 := kept_cell h5 hba4 caq
      have m5 := kept_cell h5 hbm cmq
      have s5 := h5.size
      have b5 := b4.out.trans (h5.mono (Nat.le_of_lt s4))
      replace b5 := Lib.hid b5
      clear h5 htv2 z0 z1 caq cmq ht0 ht1 ht2
      cases hmq : made[q] with
      | false =>
        rw [hmq] at m5
        clear hval hmk
        go_wp2_with fail
        go_ret
        exact ⟨rfl, hb1.out.trans (b5.out.mono hb1.out.size)⟩
      | true =>
        rw [hmq] at m5
        have hval2 := hval.out hmq
        rw [hval2]
        replace hval2 := Lib.hid hval2
        clear hval hmk
        go_wp2_with fail
        go_ret
        exact ⟨rfl, hb1.out.trans (b5.out.mono hb1.out.size)⟩
end Go.Proofs.Ytagmdljdcnmpdaa
