import Derived.Deep.RegionHeld3
import Derived.Deep.QuietTactic
import Derived.BigQuiet
import Derived.OpenShut
import Derived.Test.YtpccgdkidnkppaaPk1FnWorkValues
import Derived.Test.YtpccgdkidnkppaaPk6FnWorkValues
import Derived.Test.YtpccgdkidnkppaaPk20FnWorkValues
import Derived.Test.YtpccgdkidnkppaaPk23FnWorkValues
set_option linter.unusedVariables false
set_option linter.unusedSimpArgs false
namespace Go.Proofs.Ytpccgdkidnkppaa
open Go Go.RowKit

set_option maxRecDepth 5000 in
set_option maxHeartbeats 8000000 in
theorem fnWorkValues_calls (A : Option Addr) (c : Nat) (bytes : List Int) (w : World) (hx : RowAt (fun b : Int => Value.int .u8 b) w.heap.size w A bytes) (hl : bytes.length ≤ c) (hc : c ≤ maxLen) (hby : ∀ b ∈ bytes, 0 ≤ b ∧ b ≤ 255) :
    Calls Try.prog 10 #[.slice A bytes.length c] w fun e w' => e = .returned (.bool true) ∧ Below w.heap.size w w' := by
  have hcm := hc
  unfold maxLen at hcm
  by_cases hbig : 1048576 < bytes.length
  · clear hx hby
    go_enter Try.func10, Try.ntmps10
    go_wp2_with fail
    go_ret
    exact ⟨rfl, Below.refl _ _⟩
  have hdr := drawWorkValues_calls A c bytes w.heap.size w w (Below.refl _ _) (Nat.le_refl _) hx hl hc hby
  replace hdr := Lib.hid hdr
  clear hx hby
  go_enter Try.func10, Try.ntmps10
  go_wp2_with fail
  refine hdr.out.mono ?_
  rintro e w1 ⟨Am, cm, At, ct, made, tasks, Ai, ci, inputs, Ak, ck, keys, Av, cv, moves, rfl, ha, hb1⟩
  have hnod : ∀ T ∈ tasks, nodes T ≤ 1000000000 := fun T hT => by have := ha.base.base.nodes T hT; omega
  have hsm := ha.base.base.small
  obtain ⟨⟨rl, rb⟩, Rw, -, hR10, -, hRn, hRg, hI, hS, -, -⟩ := work_any made tasks inputs keys moves hnod (by omega) (by have := ha.base.klen; omega)
  have hI' := fun w2 (h : Below w1.heap.size w1 w2) => hI w2 Am At cm ct Ai ci Ak ck Av cv w1.heap.size w1 h h.size ha.base.base.sheet ha.base.base.ints ha.base.base.icap ha.base.base.imax ha.base.keysAt ha.base.kcap ha.base.kmax ha.movesAt ha.vcap ha.vmax
  have hS' := fun w2 (h : Below w1.heap.size w1 w2) => hS w2 Am At cm ct Ai ci Ak ck Av cv w1.heap.size w1 h h.size ha.base.base.sheet ha.base.base.ints ha.base.base.icap ha.base.base.imax ha.base.keysAt ha.base.kcap ha.base.kmax ha.movesAt ha.vcap ha.vmax
  have hlaw : rb = true → rl.length = keys.length ∧ ∀ (j : Nat) (h : j < rl.length) (h2 : j < keys.length) (w2 : World), Below w1.heap.size w1 w2 →
      Calls Try.prog 48 #[.agg #[.slice Am made.length cm, .slice At tasks.length ct], .slice Ai inputs.length ci, .int .i64 keys[j]] w2 fun e w' => e = .returned (.tuple #[.int .i64 rl[j], .bool true]) ∧ Below w2.heap.size w2 w' := fun h => by
    obtain ⟨tks, all, rfl, hG, hrl⟩ := hRg h
    dsimp only at hrl
    subst hrl
    refine ⟨by simp, fun j hj hj2 w2 hb2 => ?_⟩
    have hkr := keysOk_iff.1 hG.hkeys keys[j] (List.getElem_mem _)
    obtain ⟨q, hq⟩ := Int.eq_ofNat_of_zero_le hkr.1
    have hql : q < made.length := by omega
    have h1 := buildKey_good ⟨Am, cm, At, ct, Ai, ci, w1.heap.size, w1⟩ ⟨made, tks, inputs⟩ ⟨ha.base.base.sheet, ha.base.base.ints, ha.base.base.icap, ha.base.base.imax, hG.hS⟩ keys[j] w2 hb2 hb2.size hkr.1 hkr.2
    obtain ⟨e1, e2, e3, -⟩ := all_law hG.hS hG.hall
    dsimp only at e1
    obtain ⟨-, kn, -, e4⟩ := buildAll_facts hG.hS hG.hall
    have e5 : buildKeyP ⟨made, tks, inputs⟩ keys[j] = ((keys.map (atK all))[j], true) := by
      rw [(build_spec hG.hS _).1, List.getElem_map, hq, atK_in (by omega), e3 q (by omega)]
      exact Prod.ext rfl (e4 q hql).1
    rw [e5] at h1
    simp only [List.length_map]
    exact h1
  dsimp only at hR10 hRn
  have hal := below_al (Below.refl w1.heap.size w1) (.cells #[.slice Am made.length cm, .slice At tasks.length ct] 31 (0, 0))
  have hK := ha.base.keysAt
  replace hI := Lib.hid hI'
  replace hS := Lib.hid hS'
  replace hlaw := Lib.hid hlaw
  replace hRn := Lib.hid hRn
  replace hK := Lib.hid hK
  replace hal := Lib.hid hal
  replace hb1 := Lib.hid hb1
  clear ha hdr hnod hRg hI' hS'
  go_wp2_with fail
  refine (hI.out _ hal.out).mono ?_
  rintro e w2 ⟨A1, c1, rfl, hl1, hm1, hi1, h2⟩
  dsimp only at hl1 hi1 ⊢
  have x0 : w2.cell? ⟨w1.heap.size, 0, none⟩ = some (.slice Am made.length cm) := (h2.cell (p := ⟨w1.heap.size, 0, none⟩) (by simp)).trans (by simp)
  have x1 : w2.cell? ⟨w1.heap.size, 1, none⟩ = some (.slice At tasks.length ct) := (h2.cell (p := ⟨w1.heap.size, 1, none⟩) (by simp)).trans (by simp)
  have s2 : w1.heap.size < w2.heap.size := by have := h2.size; simp at this; omega
  have b2 : Below w1.heap.size w1 w2 := below_from h2
  replace b2 := Lib.hid b2
  replace hi1 := Lib.hid hi1
  clear h2 hI
  go_wp2_with fail
  refine (hS.out _ b2.out).mono ?_
  rintro e w3 ⟨A2, c2, rfl, hl2, hm2, hi2, h3⟩
  dsimp only at hl2 hi2 ⊢
  have y0 := kept_cell h3 s2 x0
  have y1 := kept_cell h3 s2 x1
  have s3 : w1.heap.size < w3.heap.size := by have := h3.size; omega
  have b3 := b2.out.trans (h3.mono (Nat.le_of_lt s2))
  have hi13 := hi1.out.up h3 h3.size
  have hbr := brInts_calls A1 c1 rl A2 c2 rl w3 hi13 hi2 (by unfold maxLen; omega) (by unfold maxLen; omega)
  rw [decide_eq_true rfl] at hbr
  have hneq : (rb != rb) = false := by cases rb <;> rfl
  replace b3 := Lib.hid b3
  replace hi13 := Lib.hid hi13
  replace hbr := Lib.hid hbr
  clear h3 x0 x1 b2 hi2 hS hi1
  have hm1' := hm1
  unfold maxLen at hm1 hm2
  go_wp2_with fail
  refine hbr.out.mono ?_
  rintro e w4 ⟨rfl, h4⟩
  have z0 := kept_cell h4 s3 y0
  have z1 := kept_cell h4 s3 y1
  have s4 : w1.heap.size < w4.heap.size := by have := h4.size; omega
  have b4 := b3.out.trans (h4.mono b3.out.size)
  have hi14 := hi13.out.up h4 h4.size
  replace b4 := Lib.hid b4
  replace hi14 := Lib.hid hi14
  clear h4 y0 y1 b3 hi13 hbr
  cases rb with
  | false =>
    have hrl := hRn.out rfl
    subst hrl
    go_wp2_with fail
    go_loopw [11] (fun i wr => i = .int .i64 0 ∧ wr = w4) (fun _ _ => 0)
    case atStart => exact ⟨rfl, rfl⟩
    case round =>
      obtain ⟨rfl, rfl⟩ := hrel
      go_wp2_with fail
      go_ret
      exact ⟨rfl, hb1.out.trans (b4.out.mono hb1.out.size)⟩
  | true =>
    obtain ⟨hlen, hcall⟩ := hlaw.out rfl
    replace hcall := Lib.hid hcall
    replace hlen := Lib.hid hlen
    clear hlaw hRn
    go_wp2_with fail
    go_loopw [11] (fun i wr => ∃ (j : Nat), j ≤ rl.length ∧ i = .int .i64 j ∧ Hid (Below w4.heap.size w4 wr)) (fun i _ => rl.length - (intOf i).toNat)
    case atStart => exact ⟨0, Nat.zero_le _, rfl, Lib.hid (Below.refl _ _)⟩
    case round =>
      obtain ⟨j, hj, rfl, hw⟩ := hrel
      obtain ⟨w9, hw9⟩ : ∃ w9, w9 = wr := ⟨_, rfl⟩
      subst hw9
      have y0 := (hw.out.cell (p := ⟨w1.heap.size, 0, none⟩) s4).trans z0
      have y1 := (hw.out.cell (p := ⟨w1.heap.size, 1, none⟩) s4).trans z1
      by_cases hlt : j < rl.length
      · have hlk : j < keys.length := by rw [← hlen.out]; exact hlt
        have hww := b4.out.trans (hw.out.mono b4.out.size)
        obtain ⟨bx, ox, rfl, hbx, yx⟩ := hK.out.at hww hww.size j hlk
        obtain ⟨br, or, rfl, hbr, yr⟩ := hi14.out.at hw.out hw.out.size j hlt
        have hcl := hcall.out j hlt hlk w9.drew hww.drew
        have hs0 : w1.heap.size < w9.heap.size := by have := hw.out.size; omega
        have hbx0 : bx < w9.heap.size := by have := hww.size; omega
        have hbr0 : br < w9.heap.size := by have := hw.out.size; omega
        replace hcl := Lib.hid hcl
        replace hww := Lib.hid hww
        clear hcall
        go_wp2_with fail
        go_region_held3 (fun w' => w'.cell? ⟨w1.heap.size, 0, none⟩ = some (.slice Am made.length cm) ∧ w'.cell? ⟨w1.heap.size, 1, none⟩ = some (.slice At tasks.length ct) ∧ w'.cell? ⟨bx, ox + j, none⟩ = some (.int .i64 keys[j]) ∧ w'.cell? ⟨br, or + j, none⟩ = some (.int .i64 rl[j])) (first | exact ⟨l1, l2, l3, l4⟩ | exact ⟨y0, y1, yx, yr⟩)
          (first | (go_at_call 48; refine hcl.out.mono ?_; rintro e w10 ⟨rfl, h10⟩; have l1 := kept_cell h10 hs0 y0; have l2 := kept_cell h10 hs0 y1; have l3 := kept_cell h10 hbx0 yx; have l4 := kept_cell h10 hbr0 yr))
        all_goals
          have hw10 := hw.out.drew.trans (h10.mono hw.out.size)
          replace hw10 := Lib.hid hw10
          have s10 : br < w10.heap.size := by have := h10.size; simp at this; omega
          have hne : (rl[j] != rl[j]) = false := by simp
          clear h10 l1 l2 l3 y0 y1 yx yr
          go_wp2_with fail
          go_roundw
          case rel => exact ⟨j + 1, by omega, by go_num, hw10⟩
          case measure => simp [intOf]; omega
      · go_wp2_with fail
        go_ret
        exact ⟨rfl, hb1.out.trans ((b4.out.trans (hw.out.mono b4.out.size)).mono hb1.out.size)⟩
end Go.Proofs.Ytpccgdkidnkppaa

set_option linter.unusedVariables false
namespace Go.Proofs.Ytpccgdkidnkppaa
open Go Go.RowKit

theorem byte_row {w : World} {x : Addr} {zs : List Int} (len : Nat) (hcell : ∀ i, i < zs.length → w.cell? (x.add i) = some (.int .u8 (zs.getD i 0))) : RowAt (fun b : Int => Value.int .u8 b) w.heap.size w (some x) (zs.take len) := by
  intro i hi
  have hl : i < zs.length := by simp at hi; omega
  obtain ⟨b, off, rfl, h⟩ := ints_at hcell (by omega)
  have h1 := h i hl
  refine ⟨b, off, rfl, ?_, ?_⟩
  · by_cases hb : b < w.heap.size
    · exact hb
    · exfalso
      have h2 : w.heap[b]? = none := by simp; omega
      simp [World.cell?, h2] at h1
  · rw [h1]; simp [hl]
theorem byte_vals {zs : List Int} (len : Nat) (h : ∀ n ∈ zs, (Lit.int .u8 n).wf = true) : ∀ b ∈ zs.take len, 0 ≤ b ∧ b ≤ 255 :=
  fun b hb => bounds_u8 (h b (List.mem_of_mem_take hb))
end Go.Proofs.Ytpccgdkidnkppaa
