import Derived.Test.YtagmdljdcnmpdaaCircle
import Derived.Test.YtagmdljdcnmpdaaDrawCircle
import Derived.Test.YtagmdljdcnmpdaaTaskMay2
set_option linter.unusedVariables false
set_option linter.unusedSimpArgs false
namespace Go.Proofs.Ytagmdljdcnmpdaa
open Go Go.RowKit

theorem circle_law {S : Sh} (hS : S.Ok) (k : Int) : ((specKeyP S k).2 = true ∧ circleP S k = ([], false)) ∨ ((specKeyP S k).2 = false ∧ (circleP S k).2 = true ∧ Cyc S (circleP S k).1) := by
  rw [circle_same hS]
  unfold specCircleP specKeyP
  cases h : (specP S S.made.length [] [] k).1.2 with
  | true => exact .inl ⟨rfl, rfl⟩
  | false => exact .inr ⟨rfl, rfl, spec_cyc _ _ _ _ (uok0 S) (chain0 S k) h⟩

set_option maxHeartbeats 4000000 in
theorem fnCircleOf_calls (A : Option Addr) (c : Nat) (bytes : List Int) (w : World) (hx : RowAt (fun b : Int => Value.int .u8 b) w.heap.size w A bytes) (hl : bytes.length ≤ c) (hc : c ≤ maxLen) (hby : ∀ b ∈ bytes, 0 ≤ b ∧ b ≤ 255) :
    Calls Try.prog 6 #[.slice A bytes.length c] w fun e w' => e = .returned (.bool true) ∧ Below w.heap.size w w' := by
  have hcm := hc
  unfold maxLen at hcm
  by_cases hbig : 1048576 < bytes.length
  · clear hx hby
    go_enter Try.func6, Try.ntmps6
    go_wp2_with fail
    go_ret
    exact ⟨rfl, Below.refl _ _⟩
  have hdr := drawCircleOf_calls A c bytes w.heap.size w w (Below.refl _ _) (Nat.le_refl _) hx hl hc hby
  replace hdr := Lib.hid hdr
  clear hx hby
  go_enter Try.func6, Try.ntmps6
  go_wp2_with fail
  refine hdr.out.mono ?_
  rintro e w1 ⟨Am, cm, At, ct, made, tasks, Ai, ci, inputs, key, rfl, hk0, hk9, ha, hb1⟩
  have hli : inputs.length ≤ maxLen := Nat.le_trans ha.icap ha.imax
  have hnod : ∀ T ∈ tasks, nodes T ≤ 1000000000 := fun T hT => by have := ha.nodes T hT; omega
  have hal := below_al (Below.refl w1.heap.size w1) (.cells #[.slice Am made.length cm, .slice At tasks.length ct] 26 (0, 0))
  have hz1 : w1.heap.size ≤ (w1.alloc (.cells #[.slice Am made.length cm, .slice At tasks.length ct] 26 (0, 0))).heap.size := by simp
  by_cases hgood : sheetOk made tasks = true ∧ takesOk made.length inputs = true ∧ 0 ≤ key ∧ key < made.length
  case neg =>
    have hbad : sheetOk made tasks = true → takesOk made.length inputs = true → ¬ (0 ≤ key ∧ key < made.length) := fun a b c => hgood ⟨a, b, c⟩
    have hck := fun w2 (hw : Below w1.heap.size w1 w2) => circleOf_bad Am At Ai cm ct ci made tasks inputs w1.heap.size w1 key w2 ha.sheet ha.ints hli hw hw.size hbad
    have hsk := fun w2 (hw : Below w1.heap.size w1 w2) => specCircleOf_bad Am At Ai cm ct ci made tasks inputs w1.heap.size w1 key w2 ha.sheet ha.ints hli hnod hw hw.size hbad
    have hbk := fun w2 (hw : Below w1.heap.size w1 w2) => buildKey_bad Am At Ai cm ct ci made tasks inputs w1.heap.size w1 key w2 ha.sheet ha.ints hli hw hw.size hbad
    have hbr := fun (A2 : Option Addr) (c2 : Nat) (w2 : World) => brInts_calls none 0 [] A2 c2 [] w2 (RowAt.nil _ _ _ _) (RowAt.nil _ _ _ _) (by simp [maxLen]) (by simp [maxLen])
    replace hck := Lib.hid hck
    replace hsk := Lib.hid hsk
    replace hbk := Lib.hid hbk
    replace hbr := Lib.hid hbr
    replace hal := Lib.hid hal
    replace hb1 := Lib.hid hb1
    clear ha hnod hgood hbad hli hdr
    go_wp2_with fail
    refine (hck.out _ hal.out).mono ?_
    rintro e w2 ⟨rfl, h2⟩
    have x0 : w2.cell? ⟨w1.heap.size, 0, none⟩ = some (.slice Am made.length cm) := (h2.cell (p := ⟨w1.heap.size, 0, none⟩) (by simp)).trans (by simp)
    have x1 : w2.cell? ⟨w1.heap.size, 1, none⟩ = some (.slice At tasks.length ct) := (h2.cell (p := ⟨w1.heap.size, 1, none⟩) (by simp)).trans (by simp)
    have s2 : w1.heap.size < w2.heap.size := by have := h2.size; simp at this; omega
    have b2 := hal.out.trans (h2.mono hz1)
    replace b2 := Lib.hid b2
    clear h2
    go_wp2_with fail
    refine (hsk.out _ b2.out).mono ?_
    rintro e w3 ⟨Av, cv, rfl, -, -, -, h3⟩
    have y0 := kept_cell h3 s2 x0
    have y1 := kept_cell h3 s2 x1
    have s3 : w1.heap.size < w3.heap.size := by have := h3.size; omega
    have b3 := b2.out.trans (h3.mono (Nat.le_of_lt s2))
    replace b3 := Lib.hid b3
    clear h3 x0 x1
    dsimp only
    go_wp2_with fail
    refine (hbr.out Av cv _).mono ?_
    rintro e w4 ⟨rfl, h4⟩
    have z0 := kept_cell h4 s3 y0
    have z1 := kept_cell h4 s3 y1
    have b4 := b3.out.trans (h4.mono b3.out.size)
    have s4 : w1.heap.size < w4.heap.size := by have := h4.size; omega
    replace b4 := Lib.hid b4
    clear h4 y0 y1
    go_wp2_with fail
    refine (hbk.out _ b4.out).mono ?_
    rintro e w5 ⟨rfl, h5⟩
    have b5 := b4.out.trans (h5.mono b4.out.size)
    replace b5 := Lib.hid b5
    clear h5 z0 z1
    go_wp2_with fail
    go_loopw [12] (fun i wr => i = .int .i64 0 ∧ wr = w5) (fun i _ => 0)
    case atStart => exact ⟨rfl, rfl⟩
    case round =>
      obtain ⟨rfl, rfl⟩ := hrel
      go_wp2_with fail
      go_ret
      exact ⟨rfl, hb1.out.trans (b5.out.mono hb1.out.size)⟩
  obtain ⟨hin1, hin2, hkr0, hkr1⟩ := hgood
  obtain ⟨tks, rfl, hS⟩ := ok_sh hin1 hin2
  have hE : MkEnv.Good ⟨Am, cm, At, ct, Ai, ci, w1.heap.size, w1⟩ ⟨made, tks, inputs⟩ := ⟨ha.sheet, ha.ints, ha.icap, ha.imax, hS⟩
  obtain ⟨q, rfl⟩ := Int.eq_ofNat_of_zero_le hkr0
  have hck := fun w2 (hw : Below w1.heap.size w1 w2) => circleOf_good ⟨Am, cm, At, ct, Ai, ci, w1.heap.size, w1⟩ ⟨made, tks, inputs⟩ hE q w2 hw hw.size hkr0 hkr1
  have hsk := fun w2 (hw : Below w1.heap.size w1 w2) => specCircleOf_good ⟨Am, cm, At, ct, Ai, ci, w1.heap.size, w1⟩ ⟨made, tks, inputs⟩ hE hnod q w2 hw hw.size hkr0 hkr1
  have hbk := fun w2 (hw : Below w1.heap.size w1 w2) => buildKey_good ⟨Am, cm, At, ct, Ai, ci, w1.heap.size, w1⟩ ⟨made, tks, inputs⟩ hE q w2 hw hw.size hkr0 hkr1
  have hsp := (build_spec hS q).1
  rw [hsp] at hbk
  rw [← circle_same hS] at hsk
  have hlaw := circle_law hS q
  have hml : made.length ≤ 10 := hS.ten
  have hmt : made.length = tks.length := hS.len
  have hokT := fun (j : Nat) (hj : j < tks.length) => hS.okT hj
  dsimp only at hbk hck hsk hokT
  simp only [List.length_map] at hal hz1 ⊢
  generalize circleP ⟨made, tks, inputs⟩ q = R at hck hsk hlaw
  generalize specKeyP ⟨made, tks, inputs⟩ q = X at hbk hlaw
  obtain ⟨l, ok⟩ := R
  obtain ⟨x, fine⟩ := X
  dsimp only at hlaw
  replace hbk := Lib.hid hbk
  replace hck := Lib.hid hck
  replace hsk := Lib.hid hsk
  replace hlaw := Lib.hid hlaw
  replace hokT := Lib.hid hokT
  replace hal := Lib.hid hal
  replace hb1 := Lib.hid hb1
  replace ha := Lib.hid ha
  replace hmt := Lib.hid hmt
  clear hnod hin1 hin2 hli hdr hS hE hsp
  go_wp2_with fail
  refine (hck.out _ hal.out).mono ?_
  rintro e w2 ⟨A2, c2, rfl, hl1, hl2, hl3, h2⟩
  have x0 : w2.cell? ⟨w1.heap.size, 0, none⟩ = some (.slice Am made.length cm) := (h2.cell (p := ⟨w1.heap.size, 0, none⟩) (by simp)).trans (by simp)
  have x1 : w2.cell? ⟨w1.heap.size, 1, none⟩ = some (.slice At tks.length ct) := (h2.cell (p := ⟨w1.heap.size, 1, none⟩) (by simp)).trans (by simp)
  have s2 : w1.heap.size < w2.heap.size := by have := h2.size; simp at this; omega
  have b2 := hal.out.trans (h2.mono hz1)
  replace b2 := Lib.hid b2
  replace hl3 := Lib.hid hl3
  clear h2
  dsimp only at hl1 hl3 ⊢
  go_wp2_with fail
  refine (hsk.out _ b2.out).mono ?_
  rintro e w3 ⟨A3, c3, rfl, hd1, hd2, hd3, h3⟩
  have y0 := kept_cell h3 s2 x0
  have y1 := kept_cell h3 s2 x1
  have s3 : w1.heap.size < w3.heap.size := by have := h3.size; omega
  have b3 := b2.out.trans (h3.mono (Nat.le_of_lt s2))
  dsimp only at hd1 hd3 ⊢
  have ha4 : IntsAt w3.heap.size w3 A2 l := hl3.out.up h3 h3.size
  have hbr := brInts_calls A2 c2 l A3 c3 l w3 ha4 hd3 (Nat.le_trans hl1 hl2) (Nat.le_trans hl1 hl2)
  rw [decide_eq_true rfl] at hbr
  replace hbr := Lib.hid hbr
  replace ha4 := Lib.hid ha4
  replace b3 := Lib.hid b3
  clear h3 x0 x1 hd3 hl3
  go_wp2_with fail
  refine hbr.out.mono ?_
  rintro e w4 ⟨rfl, h4⟩
  have z0 := kept_cell h4 s3 y0
  have z1 := kept_cell h4 s3 y1
  have s4 : w1.heap.size < w4.heap.size := by have := h4.size; omega
  have b4 := b3.out.trans (h4.mono (Nat.le_of_lt s3))
  have ha5 : IntsAt w4.heap.size w4 A2 l := ha4.out.up h4 h4.size
  replace b4 := Lib.hid b4
  replace ha5 := Lib.hid ha5
  clear h4 y0 y1 ha4 hbr
  have hokk : (ok != ok) = false := by cases ok <;> rfl
  go_wp2_with fail
  refine (hbk.out _ b4.out).mono ?_
  rintro e w5 ⟨rfl, h5⟩
  have v0 := kept_cell h5 s4 z0
  have v1 := kept_cell h5 s4 z1
  have s5 : w1.heap.size < w5.heap.size := by have := h5.size; omega
  have b5 := b4.out.trans (h5.mono (Nat.le_of_lt s4))
  have ha6 : IntsAt w5.heap.size w5 A2 l := ha5.out.up h5 h5.size
  replace b5 := Lib.hid b5
  replace ha6 := Lib.hid ha6
  clear h5 z0 z1 ha5 hokk
  dsimp only
  rcases hlaw.out with ⟨rfl, hR⟩ | ⟨rfl, rfl, hcyc⟩
  · cases hR
    clear hlaw
    go_wp2_with fail
    go_loopw [12] (fun i wr => i = .int .i64 0 ∧ wr = w5) (fun i _ => 0)
    case atStart => exact ⟨rfl, rfl⟩
    case round =>
      obtain ⟨rfl, rfl⟩ := hrel
      go_wp2_with fail
      go_ret
      exact ⟨rfl, hb1.out.trans (b5.out.mono hb1.out.size)⟩
  have hlpos : 0 < l.length := by cases l with | nil => exact (hcyc.1 rfl).elim | cons a l => simp
  replace hcyc := Lib.hid hcyc
  clear hlaw
  unfold maxLen at hl2
  go_wp2_with fail
  go_loopw [12] (fun i wr => ∃ (j : Nat), j ≤ l.length ∧ i = .int .i64 j ∧ Hid (Below w5.heap.size w5 wr)) (fun i _ => l.length - (intOf i).toNat)
  case atStart => exact ⟨0, Nat.zero_le _, rfl, Lib.hid (Below.refl _ _)⟩
  case round =>
    obtain ⟨j, hj, rfl, hw⟩ := hrel
    by_cases hlt : j < l.length
    · obtain ⟨hmk, hmay⟩ := hcyc.out.2 j hlt
      obtain ⟨q2, hq2⟩ : ∃ q2 : Nat, (j + 1) % l.length = q2 := ⟨_, rfl⟩
      have hq2l : q2 < l.length := by rw [← hq2]; exact Nat.mod_lt _ hlpos
      simp only [hq2] at hmay
      have hmod : ((j : Int) + 1) % (l.length : Int) = (q2 : Int) := by rw [← hq2]; simp
      have hkr := mkK_range (show mkK made l[j] ≠ false by rw [hmk]; simp)
      obtain ⟨kq, hkq⟩ := Int.eq_ofNat_of_zero_le hkr.1
      have hmkq : mkK made kq = true := by rw [← hkq]; exact hmk
      obtain ⟨hkm, hkm2⟩ := made_at (S := ⟨made, tks, inputs⟩) hmkq
      dsimp only at hkm hkm2
      have hkt : kq < tks.length := by have := hmt.out; omega
      have htk : (Sh.tk ⟨made, tks, inputs⟩ l[j]) = tks[kq] := by rw [hkq]; exact tk_at (S := ⟨made, tks, inputs⟩) hkt
      rw [htk] at hmay
      have hnr : 0 ≤ l[q2] ∧ l[q2] < made.length := mkK_range (show mkK made l[q2] ≠ false by rw [(hcyc.out.2 q2 hq2l).1]; simp)
      obtain ⟨nq, hnq⟩ := Int.eq_ofNat_of_zero_le hnr.1
      have hmem : l[q2] ∈ mayList tks[kq].enc := by
        rw [mayList, if_pos (hokT.out kq hkt), hnq]
        exact mem_mayFrom _ 10 nq (by omega) (by omega) (by omega) (by rw [← hnq]; exact hmay)
      have bw : Below w1.heap.size w1 wr := b5.out.trans (hw.out.mono (Nat.le_of_lt s5))
      have sw : w5.heap.size ≤ wr.heap.size := hw.out.size
      have y0 := kept_cell hw.out s5 v0
      have y1 := kept_cell hw.out s5 v1
      obtain ⟨bt, ot, At', ct', et, hbt, ht0, ht1, ht2, htc, htm, htp⟩ := ha.out.sheet.tasks.at bw kq (by simpa using hkt)
      simp only [List.getElem_map] at ht0 ht1 ht2 htc htp
      obtain ⟨bm, om, em, hbm, cmq⟩ := ha.out.sheet.made.at bw (by omega) kq hkm
      rw [hkm2] at cmq
      obtain ⟨ba, oa, ea, hba, caj⟩ := ha6.out.at hw.out sw j hlt
      obtain ⟨ba', oa', ea', _, can⟩ := ha6.out.at hw.out sw q2 hq2l
      subst ea
      cases ea'
      rw [hkq] at caj
      have htm2 := fun w6 (hw6 : Below wr.heap.size wr w6) => taskMay_calls tks[kq].enc At' ct' w1.heap.size w1 w6 (below_up' bw (by omega) hw6) (by have := hw6.size; omega) htc htm htp
      have hmll : (mayList tks[kq].enc).length ≤ 1000000 := by
        rw [mayList, if_pos (hokT.out kq hkt)]
        have : ∀ m, (mayFrom tks[kq].enc m).length ≤ m := by
          intro m
          induction m with
          | zero => simp [mayFrom]
          | succ m ih => rw [mayFrom, List.length_append]; split <;> simp <;> omega
        have := this 10
        omega
      have hbt4 : bt < wr.heap.size := by omega
      subst et em
      replace htm2 := Lib.hid htm2
      replace hmem := Lib.hid hmem
      replace bw := Lib.hid bw
      replace hkq := Lib.hid hkq
      replace hnq := Lib.hid hnq
      replace hmk := Lib.hid hmk
      replace hmkq := Lib.hid hmkq
      replace htk := Lib.hid htk
      replace hmay := Lib.hid hmay
      replace hq2 := Lib.hid hq2
      replace hkm2 := Lib.hid hkm2
      replace htp := Lib.hid htp
      replace hmll := Lib.hid hmll
      go_wp2_with fail
      go_region
      go_wp2_with fail
      refine (htm2.out _ (Below.refl _ _).drew).mono ?_
      rintro e w6 ⟨v6, rfl, hown6, h6⟩
      obtain ⟨A6, c6, rfl, hm1, hm2, hm3⟩ := ownsRow_ints hown6
      have hbh := brHas_calls A6 c6 (mayList tks[kq].enc) l[q2] w6 hm3 hmll.out hmem.out
      have b6 : Below w5.heap.size w5 w6 := hw.out.drew.trans (h6.mono (by simpa using sw))
      replace hbh := Lib.hid hbh
      replace b6 := Lib.hid b6
      clear hown6 hm3 h6
      go_wp2_with fail
      refine hbh.out.mono ?_
      rintro e w7 ⟨rfl, rfl⟩
      go_wp2_with fail
      go_roundw
      case rel => exact ⟨j + 1, by omega, by go_num, b6⟩
      case measure => simp [intOf]; omega
    · have hlp : decide (0 < (l.length : Int)) = true := by simp; omega
      go_wp2_with fail
      go_ret
      exact ⟨by first | rfl | simp [hlpos], hb1.out.trans ((b5.out.trans (hw.out.mono (Nat.le_of_lt s5))).mono hb1.out.size)⟩
end Go.Proofs.Ytagmdljdcnmpdaa
