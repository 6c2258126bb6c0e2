import Derived.Deep.RegionHeld3
import Derived.Test.YtpccgdkidnkppaaPk10FnOrderTopo
import Derived.Test.YtpccgdkidnkppaaPk13FnOrderTopo
import Derived.Test.YtpccgdkidnkppaaPk14FnOrderTopo
set_option linter.unusedVariables false
set_option linter.unusedSimpArgs false
namespace Go.Proofs.Ytpccgdkidnkppaa
open Go Go.RowKit

theorem own_low {w : World} {base base' : Nat} {e : TypeId} {size : Nat} {v : Value} {n : Nat} {xs : List Value} (h : w.ownsRow base e size v n xs) (hl : base' ≤ base) : w.ownsRow base' e size v n xs := by
  obtain ⟨h1, h2⟩ := h
  refine ⟨h1, h2.imp id ?_⟩
  rintro ⟨g, cap, cur, hv, hb, h3⟩
  exact ⟨g, cap, cur, hv, Nat.le_trans hl hb, h3⟩
theorem once1f_calls (b : Nat) (g : Int × Int) (k : Int) (w : World) (x0 : w.cell? ⟨b, 0, none⟩ = some (.int .i64 k)) (hb : b < w.heap.size) :
    Calls Try.prog 134 #[.agg #[.int .i64 g.1, .int .i64 g.2], .pointer (some ⟨b, 0, none⟩)] w fun e w' => e = .returned (.bool (g.1 == k)) ∧ Below w.heap.size w w' := by
  generalize hd : (g.1 == k) = d
  obtain ⟨p, q⟩ := g
  dsimp only at hd ⊢
  go_enter Try.func134, Try.ntmps134
  go_wp2_with fail
  go_ret
  exact ⟨rfl, below_al (Below.refl _ _) _⟩

set_option maxHeartbeats 2000000 in
theorem once_calls (A : Option Addr) (c : Nat) (l : List (Int × Int)) (B : Nat) (w0 w : World) (hb : Below B w0 w) (hB : B ≤ w.heap.size) (hl : l.length ≤ 1000) (hx : FetsAt B w0 A l) :
    Calls Try.prog 91 #[.slice A l.length c] w fun e w' => ∃ v, e = .returned v ∧ w'.ownsRow w.heap.size 112 2 v (onceL2 l []).length (fets (onceL2 l [])) ∧ Below w.heap.size w w' := by
  have hg : Enters Try.prog 134 := enters_of Try.func134 (by kernel_rfl) rfl
  have hcf := fun (nb : Nat) (k : Int) (Ao : Option Addr) (co : Nat) (out : List (Int × Int)) (w1 : World) (x0 : w1.cell? ⟨nb, 0, none⟩ = some (.int .i64 k)) (hnb : nb < w1.heap.size) (ho : FetsAt w1.heap.size w1 Ao out) (hol : out.length ≤ maxLen) =>
    fcontainsFunc_calls (fun g => g.1 == k) 134 #[] #[.pointer (some ⟨nb, 0, none⟩)] hg Ao co out w1.heap.size w1 w1 (Below.refl _ _) (Nat.le_refl _) hol ho (fun x w' _ hw => by
      simpa using once1f_calls nb x k w' ((hw.cell (p := ⟨nb, 0, none⟩) hnb).trans x0) (Nat.lt_of_lt_of_le hnb hw.size))
  obtain ⟨R, hR⟩ : ∃ R, onceL2 l [] = R := ⟨_, rfl⟩
  rw [hR]
  replace hcf := Lib.hid hcf
  replace hx := Lib.hid hx
  replace hb := Lib.hid hb
  replace hR := Lib.hid hR
  replace hg := Lib.hid hg
  go_enter Try.func91, Try.ntmps91
  go_wp2_with fail
  go_loopw [3, 5, 8] (fun o _ i wr => ∃ (j : Nat) (out : List (Int × Int)), j ≤ l.length ∧ i = .int .i64 j ∧ out.length ≤ j ∧ Hid (wr.ownsRow w.heap.size 112 2 o out.length (fets out)) ∧ Hid (Below w.heap.size w wr) ∧ Hid (onceL2 l [] = onceL2 (l.drop j) out)) (fun _ _ i _ => l.length - (intOf i).toNat)
  case atStart => exact ⟨0, [], Nat.zero_le _, rfl, Nat.le_refl _, Lib.hid (World.ownsRow_nil _ _ _ _), Lib.hid (Below.refl _ _), Lib.hid rfl⟩
  case round =>
    obtain ⟨j, out, hj, rfl, hol, hown, hw, he⟩ := hrel
    by_cases hlt : j < l.length
    · have he2 := he.out
      rw [List.drop_eq_getElem_cons hlt, onceL2] at he2
      obtain ⟨b, o, rfl, hbb, y0, y1⟩ := hx.out.at (below_up' hb.out hB hw.out) (Nat.le_trans hB hw.out.size) j hlt
      generalize l[j] = f at *
      obtain ⟨k, v⟩ := f
      dsimp only at y0 y1 he2
      obtain ⟨Ao, co, rfl, ho1, ho2, hf3⟩ := fets_own hown.out
      have ho2' := Nat.le_trans ho1 ho2
      replace ho2' := Lib.hid ho2'
      replace hf3 := Lib.hid hf3
      have hwz := hw.out.size
      have hnew := heap_alloc_new wr (.cells #[.int .i64 k, .int .i64 v] 112 (0, 0))
      replace he2 := Lib.hid he2
      unfold maxLen at ho2
      clear he
      go_wp2_with fail
      refine (hcf.out wr.heap.size k Ao co out _ ((cellm hnew 0).trans rfl) (block_lt hnew) (hf3.out.up (below_al (Below.refl _ _) _) (by simp)) ho2'.out).mono ?_
      rintro e w5 ⟨rfl, h5⟩
      have hnb5 := (h5.block _ (block_lt hnew)).trans hnew
      have x0 : w5.cell? ⟨wr.heap.size, 0, none⟩ = some (.int .i64 k) := (cellm hnb5 0).trans rfl
      have x1 : w5.cell? ⟨wr.heap.size, 1, none⟩ = some (.int .i64 v) := (cellm hnb5 1).trans rfl
      have hlt5 := block_lt hnb5
      have h6 := (below_al (Below.refl wr.heap.size wr) (.cells #[.int .i64 k, .int .i64 v] 112 (0, 0))).trans (h5.mono (by simp))
      have hown5 := ownsRow_block hown.out (fun i hi => h6.block i (hown.out.lt i hi).2)
      have hw5 := hw.out.trans (h6.mono hwz)
      replace hown5 := Lib.hid hown5
      replace hw5 := Lib.hid hw5
      clear h5 h6 hnb5 hnew hf3 hown hw y0 y1
      cases hany : (out.any fun g => g.1 == k) with
      | true =>
        have he3 := he2.out
        simp only [hany, if_true] at he3
        replace he3 := Lib.hid he3
        clear he2
        go_wp2_with fail
        go_roundw
        case rel => exact ⟨j + 1, out, by omega, by go_num, by omega, hown5, hw5, he3⟩
        case measure => simp [intOf]; omega
      | false =>
        have he3 := he2.out
        simp only [hany] at he3
        replace he3 := Lib.hid he3
        clear he2
        go_wp2_with (at_builtin; go_loud (with_reducible refine wpList_app1 (by rfl) (.tmp 16) (.tmp 18) 73 (by rfl) fetTy w.heap.size (.slice Ao out.length co) out.length (fets out) (by with_unfolding_all rfl) (hown5.out.alloc _) w5.heap.size 1 [.int .i64 k, .int .i64 v] (by with_unfolding_all rfl) (by with_unfolding_all rfl) ⟨_, _, heap_alloc_new w5 _, rfl⟩ (one_fet _ _) ?_ ?_ ?_ ?_))
        · unfold maxLen; omega
        · omega
        · have := hw5.out.size; simp; omega
        intro g7 cap w7 hown7 hgrow7 hat7
        have hw7 := (hw5.out.alloc hw5.out.size _).grown hgrow7 (by have := hw5.out.size; simp; omega) (fun i hi => (hown5.out.lt i hi).1)
        have hown7' : w7.ownsRow w.heap.size 112 2 (.slice (some ⟨g7, 0, none⟩) (out.length + 1) cap) (out ++ [(k, v)]).length (fets (out ++ [(k, v)])) := by
          rw [fets_append, List.length_append, List.length_singleton]; exact hown7
        replace hw7 := Lib.hid hw7
        replace hown7' := Lib.hid hown7'
        clear hown7 hgrow7 hat7
        go_wp2_with fail
        go_roundw
        case rel => exact ⟨j + 1, out ++ [(k, v)], by omega, by go_num, by simp; omega, hown7', hw7, he3⟩
        case measure => simp [intOf]; omega
    · have hd : l.drop j = [] := List.drop_eq_nil_of_le (by omega)
      have he2 := he.out
      rw [hd, onceL2] at he2
      replace he2 := Lib.hid he2
      replace hd := Lib.hid hd
      clear he
      go_wp2_with fail
      go_ret
      rw [← hR.out, he2.out]
      exact ⟨_, rfl, hown.out, hw.out⟩

set_option maxHeartbeats 1000000 in
theorem taskFetches_good (t : Tk) (A : Option Addr) (c : Nat) (xs : List Int) (Ax : Option Addr) (cx B : Nat) (w0 w : World) (hb : Below B w0 w) (hB : B ≤ w.heap.size) (hok : t.ok) (hokT : okT t.enc = true) (hc : t.enc.parts.length ≤ c) (hcm : c ≤ maxLen) (hp : PartsIs B w0 A 0 t.enc.parts)
    (hm : xs.length ≤ maxLen) (hx : IntsAt B w0 Ax xs) (hv : valsOk xs = true) :
    Calls Try.prog 90 #[.agg #[.int .i64 t.enc.kind, .int .i64 t.enc.n, .slice A t.enc.parts.length c], .slice Ax xs.length cx] w fun e w' =>
      ∃ v, e = .returned (.tuple #[v, .bool true]) ∧ w'.ownsRow w.heap.size 112 2 v (fetchedP t xs).2.length (fets (fetchedP t xs).2) ∧ Below w.heap.size w w' := by
  have hc1 := fun w1 (hw : Below w.heap.size w w1) => taskOk_calls t.enc A c B w0 w1 (below_up' hb hB hw) (Nat.le_trans hB hw.size) hc hcm hp
  rw [hokT] at hc1
  have hc2 := fun w1 (hw : Below w.heap.size w w1) => valuesOk_calls Ax cx xs B w0 w1 (below_up' hb hB hw) (Nat.le_trans hB hw.size) hm hx
  rw [hv] at hc2
  have hc3 := fun w1 (hw : Below w.heap.size w w1) => fetched_calls t A c xs Ax cx B w0 w1 (below_up' hb hB hw) (Nat.le_trans hB hw.size) hok (fets_small hokT) hc hp hm hx (vals_iff.1 (Bool.and_eq_true_iff.1 hv).2)
  replace hc1 := Lib.hid hc1
  replace hc2 := Lib.hid hc2
  replace hc3 := Lib.hid hc3
  clear hb hx hp hok hokT hv hcm
  go_enter Try.func90, Try.ntmps90
  go_wp2_with fail
  refine (hc1.out _ (below_al (Below.refl _ _) _)).mono ?_
  rintro e w1 ⟨rfl, h1⟩
  have x0 : w1.cell? ⟨w.heap.size, 0, none⟩ = some (.int .i64 t.enc.kind) := (h1.cell (p := ⟨w.heap.size, 0, none⟩) (by simp)).trans (by simp)
  have x1 : w1.cell? ⟨w.heap.size, 1, none⟩ = some (.int .i64 t.enc.n) := (h1.cell (p := ⟨w.heap.size, 1, none⟩) (by simp)).trans (by simp)
  have x2 : w1.cell? ⟨w.heap.size, 2, none⟩ = some (.slice A t.enc.parts.length c) := (h1.cell (p := ⟨w.heap.size, 2, none⟩) (by simp)).trans (by simp)
  have b1 := below_from h1
  have s1 : w.heap.size < w1.heap.size := by have := h1.size; simp at this; omega
  replace b1 := Lib.hid b1
  clear h1
  go_wp2_with fail
  refine (hc2.out _ b1.out).mono ?_
  rintro e w2 ⟨rfl, h2⟩
  have y0 := kept_cell h2 s1 x0
  have y1 := kept_cell h2 s1 x1
  have y2 := kept_cell h2 s1 x2
  have b2 := below_up b1.out h2
  replace b2 := Lib.hid b2
  clear h2 x0 x1 x2 s1
  go_wp2_with fail
  refine (hc3.out _ b2.out).mono ?_
  rintro e w3 ⟨v, rfl, hown, h3⟩
  have b3 := below_up b2.out h3
  have hown' : w3.ownsRow w.heap.size 112 2 v (fetchedP t xs).2.length (fets (fetchedP t xs).2) := own_low hown b2.out.size
  replace b3 := Lib.hid b3
  replace hown' := Lib.hid hown'
  clear h3 y0 y1 y2 hown
  go_wp2_with fail
  go_ret2
  exact ⟨_, rfl, hown'.out, b3.out⟩

set_option maxHeartbeats 2000000 in
theorem taskUses_good (t : Tk) (A : Option Addr) (c : Nat) (xs : List Int) (Ax : Option Addr) (cx B : Nat) (w0 w : World) (hb : Below B w0 w) (hB : B ≤ w.heap.size) (hok : t.ok) (hokT : okT t.enc = true) (hc : t.enc.parts.length ≤ c) (hcm : c ≤ maxLen) (hp : PartsIs B w0 A 0 t.enc.parts)
    (hm : xs.length ≤ maxLen) (hx : IntsAt B w0 Ax xs) (hv : valsOk xs = true) :
    Calls Try.prog 32 #[.agg #[.int .i64 t.enc.kind, .int .i64 t.enc.n, .slice A t.enc.parts.length c], .slice Ax xs.length cx] w fun e w' =>
      ∃ v, e = .returned (.tuple #[v, .bool true]) ∧ w'.ownsRow w.heap.size 3 1 v (usesP t xs).length (ints (usesP t xs)) ∧ Below w.heap.size w w' := by
  have hc1 := fun w1 (hw : Below w.heap.size w w1) => taskFetches_good t A c xs Ax cx B w0 w1 (below_up' hb hB hw) (Nat.le_trans hB hw.size) hok hokT hc hcm hp hm hx hv
  have hfl := fetched_length t xs
  have hfs := fets_small hokT
  have hmap := once_map (fetchedP t xs).2 []
  have hus : usesP t xs = usesL (fetchedP t xs).2 [] := rfl
  rw [hus, show ([] : List Int) = ([] : List (Int × Int)).map Prod.fst from rfl, ← hmap]
  have hll := onceL2_length (fetchedP t xs).2 []
  generalize (fetchedP t xs).2 = l at *
  have hlen : l.length ≤ 100 := by omega
  have hc2 := fun (Al : Option Addr) (cl : Nat) (w1 : World) (h : FetsAt w1.heap.size w1 Al l) => once_calls Al cl l w1.heap.size w1 w1 (Below.refl _ _) (Nat.le_refl _) (by omega) h
  generalize onceL2 l [] = r at *
  have hrl : r.length ≤ 100 := by simp at hll; omega
  obtain ⟨R, hR⟩ : ∃ R, r.map Prod.fst = R := ⟨_, rfl⟩
  rw [hR]
  replace hc1 := Lib.hid hc1
  replace hc2 := Lib.hid hc2
  replace hR := Lib.hid hR
  clear hb hx hp hok hokT hv hcm hfl hfs hmap hus hll hc
  go_enter Try.func32, Try.ntmps32
  go_wp2_with fail
  refine (hc1.out _ (below_al (Below.refl _ _) _)).mono ?_
  rintro e w1 ⟨v1, rfl, hown1, h1⟩
  have b1 := below_from h1
  obtain ⟨A1, c1, rfl, -, -, hf1⟩ := fets_own hown1
  have hcall := hc2.out A1 c1 w1 hf1
  replace b1 := Lib.hid b1
  replace hcall := Lib.hid hcall
  clear h1 hown1 hf1 hc1 hc2
  go_wp2_with fail
  refine hcall.out.mono ?_
  rintro e w2 ⟨v2, rfl, hown2, h2⟩
  have b2 := below_up b1.out h2
  obtain ⟨A2, c2, rfl, hr1, hr2, hf2⟩ := fets_own hown2
  unfold maxLen at hr2
  replace b2 := Lib.hid b2
  replace hf2 := Lib.hid hf2
  clear h2 hown2 hcall
  go_wp2_with fail
  go_loopw [8, 10, 20] (fun o _ i wr => ∃ (j : Nat), j ≤ r.length ∧ i = .int .i64 j ∧ Hid (wr.ownsRow w2.heap.size 3 1 o j (ints ((r.take j).map Prod.fst))) ∧ Hid (Below w2.heap.size w2 wr)) (fun _ _ i _ => r.length - (intOf i).toNat)
  case atStart => exact ⟨0, Nat.zero_le _, rfl, Lib.hid (World.ownsRow_nil _ _ _ _), Lib.hid (Below.refl _ _)⟩
  case round =>
    obtain ⟨j, hj, rfl, hown, hw2⟩ := hrel
    by_cases hlt : j < r.length
    · obtain ⟨b, o, rfl, hbb, y0, y1⟩ := hf2.out.at hw2.out hw2.out.size j hlt
      have htk : (r.take (j + 1)).map Prod.fst = (r.take j).map Prod.fst ++ [r[j].1] := by rw [List.take_succ_eq_append_getElem hlt, List.map_append]; rfl
      generalize r[j] = f at *
      obtain ⟨k, v⟩ := f
      dsimp only at y0 y1 htk
      have hwz := hw2.out.size
      replace htk := Lib.hid htk
      go_wp2_with (at_builtin; go_loud (with_reducible refine wpList_app1 (by rfl) (.tmp 24) (.tmp 27) 26 (by rfl) intTy w2.heap.size u8 j (ints ((r.take j).map Prod.fst)) (by with_unfolding_all rfl) ((hown.out.alloc _).alloc _) (wr.heap.size + 1) 1 [.int .i64 k] (by with_unfolding_all rfl) (by with_unfolding_all rfl) ⟨_, _, heap_new (by simp), rfl⟩ (one_int _ _) ?_ ?_ ?_ ?_))
      · unfold maxLen; omega
      · omega
      · simp; omega
      intro g7 cap w7 hown7 hgrow7 hat7
      have hal2 := below_al (below_al (Below.refl wr.heap.size wr) (.cells #[.int .i64 k, .int .i64 v] 112 (0, 0))) (.cells #[.int .i64 k] 3 (0, 0))
      have hw27 : Below w2.heap.size w2 w7 := (hw2.out.trans (hal2.mono hwz)).grown hgrow7 (by simp; omega) (fun i hi => (hown.out.lt i hi).1)
      have hown7' : w7.ownsRow w2.heap.size 3 1 (.slice (some ⟨g7, 0, none⟩) (j + 1) cap) (j + 1) (ints ((r.take (j + 1)).map Prod.fst)) := by
        rw [htk.out, ints_append, List.map_take]; exact hown7
      replace hw27 := Lib.hid hw27
      replace hown7' := Lib.hid hown7'
      clear hown7 hgrow7 hat7 hal2
      go_wp2_with fail
      go_roundw
      case rel => exact ⟨j + 1, by omega, by go_num, hown7', hw27⟩
      case measure => simp [intOf]; omega
    · have hje : j = r.length := by omega
      subst hje
      have hown' := own_low hown.out b2.out.size
      have hw := b2.out.trans (hw2.out.mono b2.out.size)
      replace hw := Lib.hid hw
      rw [List.take_length, hR.out] at hown'
      have hRl : r.length = R.length := by rw [← hR.out, List.length_map]
      rw [hRl] at hown'
      replace hown' := Lib.hid hown'
      clear hown
      go_wp2_with fail
      go_ret2
      exact ⟨_, rfl, hown'.out, hw.out⟩
end Go.Proofs.Ytpccgdkidnkppaa

set_option linter.unusedVariables false
set_option linter.unusedSimpArgs false
namespace Go.Proofs.Ytpccgdkidnkppaa
open Go Go.RowKit

theorem all_filter {p c : Int → Bool} : ∀ (l : List Int), l.all (fun j => !p j || c j) = (l.filter p).all c := by
  intro l
  induction l with
  | nil => rfl
  | cons x l ih =>
    rw [List.all_cons, ih]
    cases h : p x with
    | true => rw [List.filter_cons_of_pos h, List.all_cons]; rfl
    | false => rw [List.filter_cons_of_neg (by rw [h]; simp)]; rfl
/-- the made keys that a key fetches -/
def usesM (S : Sh) (vals : List Int) (k : Int) : List Int := (usesP (S.tk k) vals).filter (mkK S.made)
theorem fitAt_uses (S : Sh) (vals order : List Int) (i : Nat) (k : Int) : fitAt S vals order i k = (mkK S.made k && !(order.take i).contains k && (usesM S vals k).all fun j => (order.take i).contains j) := by
  unfold fitAt usesM
  rw [all_filter]
theorem valsOk_of {xs : List Int} (h1 : xs.length ≤ 10) (h2 : ∀ x ∈ xs, 0 ≤ x ∧ x ≤ 96) : valsOk xs = true := by
  unfold valsOk
  rw [vals_iff.2 h2]
  simp [h1]

set_option maxHeartbeats 2000000 in
theorem uses_calls (E : MkEnv) (S : Sh) (hE : E.Good S) (q : Nat) (hq : q < S.made.length) (hmq : mkK S.made q = true) (Av : Option Addr) (cv : Nat) (vals : List Int) (w : World) (hb : Below E.B E.w0 w) (hB : E.B ≤ w.heap.size) (hv : IntsAt w.heap.size w Av vals) (hvl : vals.length ≤ 10) (hvr : ∀ x ∈ vals, 0 ≤ x ∧ x ≤ 96) :
    Calls Try.prog 63 #[.agg #[.slice E.Am S.made.length E.cm, .slice E.At S.tks.length E.ct], .int .i64 q, .slice Av vals.length cv] w fun e w' =>
      ∃ v, e = .returned v ∧ w'.ownsRow w.heap.size 3 1 v (usesM S vals q).length (ints (usesM S vals q)) ∧ Below w.heap.size w w' := by
  have hql : q < S.tks.length := by have := hE.ok.len; omega
  have hten := hE.ok.ten
  have hok := hE.ok.tks S.tks[q] (List.getElem_mem _)
  have hokT := hE.ok.okT hql
  obtain ⟨bt, ot, At', ct', et, hbt, ht0, ht1, ht2, htc, htm, htp⟩ := hE.sheet.tasks.at hb q (by simpa using hql)
  simp only [List.getElem_map] at ht0 ht1 ht2 htc htp
  have hbt3 := Nat.lt_of_lt_of_le hbt hB
  have hc1 := fun w1 (hw : Below w.heap.size w w1) => taskUses_good S.tks[q] At' ct' vals Av cv w.heap.size w w1 hw hw.size hok hokT htc htm (PartsIs.up hb hB _ _ _ htp) (by unfold maxLen; omega) hv (valsOk_of hvl hvr)
  have hc2 := fun k w1 (hw : Below w.heap.size w w1) => makes_calls E.Am E.At E.cm S.tks.length E.ct k S.made E.B E.w0 w1 (below_up' hb hB hw) (Nat.le_trans hB hw.size) (Nat.le_trans hE.sheet.lm hE.sheet.mm) hE.sheet.made
  simp only [et] at hc2
  have hul := usesP_length S.tks[q] vals
  have hfs := fets_small hokT
  have hum : usesM S vals q = (usesP S.tks[q] vals).filter (mkK S.made) := by unfold usesM; rw [tk_at hql]
  rw [hum]
  generalize usesP S.tks[q] vals = U at *
  obtain ⟨R, hR⟩ : ∃ R, U.filter (mkK S.made) = R := ⟨_, rfl⟩
  rw [hR]
  have hUl : U.length ≤ 100 := by omega
  replace hc1 := Lib.hid hc1
  replace hc2 := Lib.hid hc2
  replace hR := Lib.hid hR
  replace hb := Lib.hid hb
  clear hok hokT htc htm htp hul hfs hum hv hE hmq
  go_enter Try.func63, Try.ntmps63
  go_wp2_with fail
  refine (hc1.out _ (below_al (Below.refl _ _) _)).mono ?_
  rintro e w1 ⟨v1, rfl, hown1, h1⟩
  have x0 : w1.cell? ⟨w.heap.size, 0, none⟩ = some (.slice E.Am S.made.length E.cm) := (h1.cell (p := ⟨w.heap.size, 0, none⟩) (by simp)).trans (by simp)
  have x1 : w1.cell? ⟨w.heap.size, 1, none⟩ = some (.slice (some ⟨bt, ot, none⟩) S.tks.length E.ct) := (h1.cell (p := ⟨w.heap.size, 1, none⟩) (by simp)).trans (by simp)
  have b1 := below_from h1
  have s1 : w.heap.size < w1.heap.size := by have := h1.size; simp at this; omega
  obtain ⟨A1, c1, rfl, hr1, hr2, hi1⟩ := ownsRow_ints hown1
  unfold maxLen at hr2
  replace b1 := Lib.hid b1
  replace hi1 := Lib.hid hi1
  replace x0 := Lib.hid x0
  replace x1 := Lib.hid x1
  clear h1 hown1 hc1 ht0 ht1 ht2
  go_wp2_with fail
  go_loopw [9, 11, 24] (fun o _ i wr => ∃ (j : Nat) (out : List Int), j ≤ U.length ∧ i = .int .i64 j ∧ out.length ≤ j ∧ Hid (out = (U.take j).filter (mkK S.made)) ∧ Hid (wr.ownsRow w1.heap.size 3 1 o out.length (ints out)) ∧ Hid (Below w1.heap.size w1 wr)) (fun _ _ i _ => U.length - (intOf i).toNat)
  case atStart => exact ⟨0, [], Nat.zero_le _, rfl, Nat.le_refl _, Lib.hid rfl, Lib.hid (World.ownsRow_nil _ _ _ _), Lib.hid (Below.refl _ _)⟩
  case round =>
    obtain ⟨j, out, hj, rfl, hol, hout, hown, hw⟩ := hrel
    by_cases hlt : j < U.length
    · obtain ⟨b, o, rfl, hbb, y⟩ := hi1.out.at hw.out hw.out.size j hlt
      have htk : (U.take (j + 1)).filter (mkK S.made) = out ++ (if mkK S.made U[j] then [U[j]] else []) := by
        rw [List.take_succ_eq_append_getElem hlt, List.filter_append, ← hout.out]
        cases h : mkK S.made U[j] <;> simp [h]
      generalize U[j] = k at *
      have y0 := (hw.out.cell (p := ⟨w.heap.size, 0, none⟩) s1).trans x0.out
      have y1 := (hw.out.cell (p := ⟨w.heap.size, 1, none⟩) s1).trans x1.out
      have hcall := hc2.out k wr (b1.out.trans (hw.out.mono b1.out.size))
      have hz : w.heap.size < wr.heap.size := by have := hw.out.size; omega
      cases hmk : mkK S.made k with
      | false =>
        rw [hmk] at hcall htk
        simp only [Bool.false_eq_true, if_false, List.append_nil] at htk
        replace htk := Lib.hid htk
        replace hcall := Lib.hid hcall
        replace hmk := Lib.hid hmk
        go_wp2_with fail
        refine hcall.out.mono ?_
        rintro e w5 ⟨rfl, h5⟩
        have hown5 := ownsRow_block hown.out (fun i hi => h5.block i (hown.out.lt i hi).2)
        have hw5 := below_up hw.out h5
        replace hown5 := Lib.hid hown5
        replace hw5 := Lib.hid hw5
        clear h5 y y0 y1 hown hcall
        go_wp2_with fail
        go_roundw
        case rel => exact ⟨j + 1, out, by omega, by go_num, by omega, Lib.hid htk.out.symm, hown5, hw5⟩
        case measure => simp [intOf]; omega
      | true =>
        rw [hmk] at hcall htk
        simp only [if_true] at htk
        replace htk := Lib.hid htk
        replace hcall := Lib.hid hcall
        replace hmk := Lib.hid hmk
        go_wp2_with fail
        refine hcall.out.mono ?_
        rintro e w5 ⟨rfl, h5⟩
        have hown5 := ownsRow_block hown.out (fun i hi => h5.block i (hown.out.lt i hi).2)
        have hw5 := below_up hw.out h5
        have hwz := hw5.size
        replace hown5 := Lib.hid hown5
        replace hw5 := Lib.hid hw5
        clear h5 y y0 y1 hown hcall
        go_wp2_with (at_builtin; go_loud (with_reducible refine wpList_app1 (by rfl) (.tmp 31) (.tmp 33) 26 (by rfl) intTy w1.heap.size u9 out.length (ints out) (by with_unfolding_all rfl) (hown5.out.alloc _) w5.heap.size 1 [.int .i64 k] (by with_unfolding_all rfl) (by with_unfolding_all rfl) ⟨_, _, heap_alloc_new w5 _, rfl⟩ (one_int _ _) ?_ ?_ ?_ ?_))
        · unfold maxLen; omega
        · omega
        · simp; omega
        intro g7 cap w7 hown7 hgrow7 hat7
        have hw7 : Below w1.heap.size w1 w7 := (hw5.out.alloc hwz _).grown hgrow7 (by simp; omega) (fun i hi => (hown5.out.lt i hi).1)
        have hown7' : w7.ownsRow w1.heap.size 3 1 (.slice (some ⟨g7, 0, none⟩) (out.length + 1) cap) (out ++ [k]).length (ints (out ++ [k])) := by
          rw [ints_append, List.length_append, List.length_singleton]; exact hown7
        replace hw7 := Lib.hid hw7
        replace hown7' := Lib.hid hown7'
        clear hown7 hgrow7 hat7
        go_wp2_with fail
        go_roundw
        case rel => exact ⟨j + 1, out ++ [k], by omega, by go_num, by simp; omega, Lib.hid htk.out.symm, hown7', hw7⟩
        case measure => simp [intOf]; omega
    · have hje : j = U.length := by omega
      subst hje
      have ho := hout.out
      rw [List.take_length, hR.out] at ho
      have hfin := own_low hown.out b1.out.size
      rw [ho] at hfin
      have hw2 := b1.out.trans (hw.out.mono b1.out.size)
      replace hfin := Lib.hid hfin
      replace hw2 := Lib.hid hw2
      replace ho := Lib.hid ho
      clear hown hout
      go_wp2_with fail
      go_ret
      exact ⟨_, rfl, hfin.out, hw2.out⟩

/-- whether an order fits -/
def orderFitsP (S : Sh) (order : List Int) : Bool := (buildAllP S).2 && fitsP S (buildAllP S).1 order
theorem take_at {A : Option Addr} {B : Nat} {w : World} {xs : List Int} (h : IntsAt B w A xs) (j : Nat) : IntsAt B w A (xs.take j) := fun i hi => by
  rw [List.length_take] at hi
  have := h i (by omega)
  rw [List.getElem_take]
  exact this

set_option maxHeartbeats 4000000 in
theorem orderFits_good (E : MkEnv) (S : Sh) (hE : E.Good S) (Ak : Option Addr) (ck : Nat) (order : List Int) (w : World) (hb : Below E.B E.w0 w) (hB : E.B ≤ w.heap.size) (hx : IntsAt E.B E.w0 Ak order) (hl : order.length ≤ ck) (hm : ck ≤ maxLen) :
    Calls Try.prog 16 #[.agg #[.slice E.Am S.made.length E.cm, .slice E.At S.tks.length E.ct], .slice E.Ai S.inputs.length E.ci, .slice Ak order.length ck] w fun e w' =>
      e = .returned (.bool (orderFitsP S order)) ∧ Below w.heap.size w w' := by
  have hten := hE.ok.ten
  have hc1 := fun w1 (hw : Below w.heap.size w w1) => buildAll_good E S hE w1 (below_up' hb hB hw) (Nat.le_trans hB hw.size)
  have hc2 := fun k w1 (hw : Below w.heap.size w w1) => makes_calls E.Am E.At E.cm S.tks.length E.ct k S.made E.B E.w0 w1 (below_up' hb hB hw) (Nat.le_trans hB hw.size) (Nat.le_trans hE.sheet.lm hE.sheet.mm) hE.sheet.made
  have hml := Nat.le_trans hl hm
  have hc3 := fun (j : Nat) (hj : j < order.length) (k : Int) w1 (hw : Below w.heap.size w w1) => by
    have h := contains_calls Ak ck k (order.take j) E.B E.w0 w1 (below_up' hb hB hw) (Nat.le_trans hB hw.size) (by rw [List.length_take]; omega) (take_at hx j)
    rw [show (order.take j).length = j by rw [List.length_take]; omega] at h
    exact h
  have hall := fun all (h : buildAllP S = (all, true)) => all_law hE.ok h
  have hc4 := fun (vals : List Int) (hvl : vals.length ≤ 10) (hvr : ∀ x ∈ vals, 0 ≤ x ∧ x ≤ 96) (q : Nat) (hq : q < S.made.length) (hmq : mkK S.made q = true) (Av : Option Addr) (cv : Nat) (w1 : World) (hw : Below w.heap.size w w1) (hv : IntsAt w1.heap.size w1 Av vals) =>
    uses_calls E S hE q hq hmq Av cv vals w1 (below_up' hb hB hw) (Nat.le_trans hB hw.size) hv hvl hvr
  unfold orderFitsP
  obtain ⟨P, hP⟩ : ∃ P, buildAllP S = P := ⟨_, rfl⟩
  rw [hP] at hc1 hall ⊢
  obtain ⟨vals, ok⟩ := P
  dsimp only at hc1 hall ⊢
  unfold maxLen at hm hml
  replace hc1 := Lib.hid hc1
  replace hc2 := Lib.hid hc2
  replace hc3 := Lib.hid hc3
  replace hc4 := Lib.hid hc4
  replace hb := Lib.hid hb
  replace hE := Lib.hid hE
  replace hx := Lib.hid hx
  go_enter Try.func16, Try.ntmps16
  go_wp2_with fail
  refine (hc1.out _ (below_al (Below.refl _ _) _)).mono ?_
  rintro e w1 ⟨v1, rfl, hown1, h1⟩
  dsimp only at hown1
  have x0 : w1.cell? ⟨w.heap.size, 0, none⟩ = some (.slice E.Am S.made.length E.cm) := (h1.cell (p := ⟨w.heap.size, 0, none⟩) (by simp)).trans (by simp)
  have x1 : w1.cell? ⟨w.heap.size, 1, none⟩ = some (.slice E.At S.tks.length E.ct) := (h1.cell (p := ⟨w.heap.size, 1, none⟩) (by simp)).trans (by simp)
  have b1 := below_from h1
  have s1 : w.heap.size < w1.heap.size := by have := h1.size; simp at this; omega
  obtain ⟨Av, cv, rfl, -, -, hi1⟩ := ownsRow_ints hown1
  replace b1 := Lib.hid b1
  replace hi1 := Lib.hid hi1
  replace x0 := Lib.hid x0
  replace x1 := Lib.hid x1
  clear h1 hown1 hc1
  cases ok with
  | false =>
    go_wp2_with fail
    go_ret
    exact ⟨rfl, b1.out⟩
  | true =>
    obtain ⟨hvl, hvr, -, -⟩ := hall vals rfl
    have hc4' := hc4.out vals (by omega) hvr
    replace hc4' := Lib.hid hc4'
    replace hP := Lib.hid hP
    replace hvr := Lib.hid hvr
    replace hvl := Lib.hid hvl
    clear hall hc4
    go_wp2_with fail
    go_loopw [9, 10, 12, 23, 44] (fun _ _ _ i _ wr => ∃ (j : Nat), j ≤ order.length ∧ i = .int .i64 j ∧ Hid (Below w1.heap.size w1 wr) ∧ Hid (fitsP S vals order = fitsL S vals order j)) (fun _ _ _ i _ _ => order.length - (intOf i).toNat)
    case atStart => exact ⟨0, Nat.zero_le _, rfl, Lib.hid (Below.refl _ _), Lib.hid rfl⟩
    case round =>
      obtain ⟨j, hj, rfl, hw, he⟩ := hrel
      by_cases hlt : j < order.length
      · have he2 := he.out
        rw [fitsL_step hlt, fitAt_uses] at he2
        obtain ⟨b, o, rfl, hbb, y⟩ := hx.out.at (below_up' hb.out hB (b1.out.trans (hw.out.mono b1.out.size))) (Nat.le_trans hB (Nat.le_trans b1.out.size hw.out.size)) j hlt
        have hc3' := hc3.out j hlt
        generalize order[j] = k at *
        have y0 := (hw.out.cell (p := ⟨w.heap.size, 0, none⟩) s1).trans x0.out
        have y1 := (hw.out.cell (p := ⟨w.heap.size, 1, none⟩) s1).trans x1.out
        have hcall := hc2.out k wr (b1.out.trans (hw.out.mono b1.out.size))
        have hz : w.heap.size < wr.heap.size := by have := hw.out.size; omega
        have hjc : j ≤ ck := by omega
        replace hc3' := Lib.hid hc3'
        cases hmk : mkK S.made k with
        | false =>
          rw [hmk] at hcall he2
          simp only [Bool.false_and] at he2
          replace he2 := Lib.hid he2
          replace hcall := Lib.hid hcall
          replace hmk := Lib.hid hmk
          go_wp2_with fail
          refine hcall.out.mono ?_
          rintro e w5 ⟨rfl, h5⟩
          have hw5 := below_up hw.out h5
          replace hw5 := Lib.hid hw5
          clear h5 y y0 y1 hcall
          go_wp2_with fail
          go_ret
          exact ⟨by rw [he2.out]; rfl, b1.out.trans (hw5.out.mono b1.out.size)⟩
        | true =>
          rw [hmk] at hcall he2
          simp only [Bool.true_and] at he2
          have hkr := mkK_range (show mkK S.made k ≠ false by rw [hmk]; simp)
          obtain ⟨q, rfl⟩ := Int.eq_ofNat_of_zero_le hkr.1
          have hq : q < S.made.length := by omega
          replace hcall := Lib.hid hcall
          replace hmk := Lib.hid hmk
          clear hkr
          go_wp2_with fail
          refine hcall.out.mono ?_
          rintro e w5 ⟨rfl, h5⟩
          have hw5 := below_up hw.out h5
          have z0 := (hw5.cell (p := ⟨w.heap.size, 0, none⟩) s1).trans x0.out
          have z1 := (hw5.cell (p := ⟨w.heap.size, 1, none⟩) s1).trans x1.out
          have hz5 : w.heap.size < w5.heap.size := by have := hw5.size; omega
          have hcont := hc3'.out q w5 (b1.out.trans (hw5.mono b1.out.size))
          have hus := hc4'.out q hq hmk.out Av cv w5 (b1.out.trans (hw5.mono b1.out.size)) (hi1.out.up hw5 hw5.size)
          generalize usesM S vals q = V at *
          have hin := fun (x : Int) (w9 : World) (h9 : Below w1.heap.size w1 w9) => hc3'.out x w9 (b1.out.trans (h9.mono b1.out.size))
          generalize hT : order.take j = T at *
          replace hw5 := Lib.hid hw5
          replace hcont := Lib.hid hcont
          replace hus := Lib.hid hus
          replace hin := Lib.hid hin
          replace hT := Lib.hid hT
          clear h5 y y0 y1 hcall hw hz hc3'
          cases hcn : T.contains (q : Int) with
          | true =>
            rw [hcn] at hcont he2
            simp only [Bool.not_true, Bool.false_and] at he2
            replace he2 := Lib.hid he2
            replace hcont := Lib.hid hcont.out
            replace hcn := Lib.hid hcn
            go_wp2_with fail
            refine hcont.out.mono ?_
            rintro e w6 ⟨rfl, rfl⟩
            go_wp2_with fail
            go_ret
            exact ⟨by rw [he2.out]; rfl, b1.out.trans (hw5.out.mono b1.out.size)⟩
          | false =>
            rw [hcn] at hcont he2
            simp only [Bool.not_false, Bool.true_and] at he2
            replace he2 := Lib.hid he2
            replace hcont := Lib.hid hcont.out
            replace hcn := Lib.hid hcn
            go_wp2_with fail
            refine hcont.out.mono ?_
            rintro e w6 ⟨rfl, rfl⟩
            go_wp2_with fail
            refine hus.out.mono ?_
            rintro e w7 ⟨v7, rfl, hown7, h7⟩
            have hw7 := below_up hw5.out h7
            obtain ⟨Au, cu, rfl, hu1, hu2, hi7⟩ := ownsRow_ints hown7
            unfold maxLen at hu2
            replace hw7 := Lib.hid hw7
            replace hi7 := Lib.hid hi7
            clear h7 hown7 z0 z1 hcont hus hz5 hw5
            go_wp2_with fail
            go_loopw [12, 44] (fun _ i wr => ∃ (a : Nat), a ≤ V.length ∧ i = .int .i64 a ∧ wr = w7 ∧ Hid (V.all (fun x => T.contains x) = (V.drop a).all fun x => T.contains x)) (fun _ i _ => V.length - (intOf i).toNat)
            case atStart => exact ⟨0, Nat.zero_le _, rfl, rfl, Lib.hid rfl⟩
            case round =>
              obtain ⟨a, ha, rfl, rfl, hV⟩ := hrel
              by_cases hla : a < V.length
              · have hV2 := hV.out
                rw [List.drop_eq_getElem_cons hla, List.all_cons] at hV2
                obtain ⟨b2, o2, rfl, hb2, y2⟩ := hi7.out.at (Below.refl _ _) (Nat.le_refl _) a hla
                have hcall := hin.out V[a] wr hw7.out
                generalize V[a] = x at *
                cases hcx : T.contains x with
                | true =>
                  rw [hcx] at hcall hV2
                  simp only [Bool.true_and] at hV2
                  replace hV2 := Lib.hid hV2
                  replace hcall := Lib.hid hcall
                  replace hcx := Lib.hid hcx
                  go_wp2_with fail
                  refine hcall.out.mono ?_
                  rintro e w8 ⟨rfl, rfl⟩
                  go_wp2_with fail
                  go_roundw
                  case rel => exact ⟨a + 1, by omega, by go_num, by first | rfl | trivial, hV2⟩
                  case measure => simp [intOf]; omega
                | false =>
                  rw [hcx] at hcall hV2
                  simp only [Bool.false_and] at hV2
                  have he3 := he2.out
                  rw [hV2, Bool.false_and] at he3
                  replace he3 := Lib.hid he3
                  replace hV2 := Lib.hid hV2
                  replace hcall := Lib.hid hcall
                  replace hcx := Lib.hid hcx
                  go_wp2_with fail
                  refine hcall.out.mono ?_
                  rintro e w8 ⟨rfl, rfl⟩
                  go_wp2_with fail
                  go_ret
                  exact ⟨by rw [he3.out]; rfl, b1.out.trans (hw7.out.mono b1.out.size)⟩
              · have hV2 := hV.out
                rw [List.drop_eq_nil_of_le (by omega)] at hV2
                have he3 := he2.out
                rw [hV2] at he3
                simp only [List.all_nil, Bool.true_and] at he3
                replace he3 := Lib.hid he3
                replace hV2 := Lib.hid hV2
                go_wp2_with fail
                go_roundw
                case rel => exact ⟨j + 1, by omega, by go_num, hw7, he3⟩
                case measure => simp [intOf]; omega
      · have he2 := he.out
        rw [fitsL_end hlt] at he2
        replace he2 := Lib.hid he2
        go_wp2_with fail
        go_ret
        exact ⟨by rw [he2.out]; rfl, b1.out.trans (hw.out.mono b1.out.size)⟩
end Go.Proofs.Ytpccgdkidnkppaa

set_option linter.unusedVariables false
set_option linter.unusedSimpArgs false
namespace Go.Proofs.Ytpccgdkidnkppaa
open Go Go.RowKit

set_option maxHeartbeats 1000000 in
theorem orderTopo_bad (Am At Ak : Option Addr) (cm ct ck : Nat) (made : List Bool) (tasks : List Task) (keys : List Int) (B : Nat) (w0 w : World) (hb : Below B w0 w) (hB : B ≤ w.heap.size) (hs : SheetAt B w0 Am cm At ct made tasks) (hx : IntsAt B w0 Ak keys) (hkl : keys.length ≤ maxLen) (hbad : safeP made tasks = true → keysOk made.length keys = false) :
    Calls Try.prog 21 #[.agg #[.slice Am made.length cm, .slice At tasks.length ct], .slice Ak keys.length ck] w fun e w' => e = .returned (.tuple #[.slice none 0 0, .bool false]) ∧ Below w.heap.size w w' := by
  have hc1 := fun w1 (hw : Below w.heap.size w w1) => sheetSafe_calls Am At cm ct made tasks B w0 w1 (below_up' hb hB hw) (Nat.le_trans hB hw.size) hs
  have hc3 := fun w1 (hw : Below w.heap.size w w1) => all_calls Am At Ak made.length cm tasks.length ct ck keys B w0 w1 (below_up' hb hB hw) (Nat.le_trans hB hw.size) hkl hx
  generalize safeP made tasks = d1 at *
  generalize keysOk made.length keys = d3 at *
  replace hb := Lib.hid hb
  replace hs := Lib.hid hs
  replace hx := Lib.hid hx
  cases d1 with
  | false =>
    replace hc1 := Lib.hid hc1
    clear hc3 hbad
    go_enter Try.func21, Try.ntmps21
    go_wp2_with fail
    refine (hc1.out _ (below_al (Below.refl _ _) _)).mono ?_
    rintro e w1 ⟨rfl, h1⟩
    replace h1 := Lib.hid h1
    go_wp2_with fail
    go_ret2
    exact ⟨rfl, below_from h1.out⟩
  | true =>
    have h3 := hbad rfl
    subst h3
    replace hc1 := Lib.hid hc1
    replace hc3 := Lib.hid hc3
    clear hbad
    go_enter Try.func21, Try.ntmps21
    go_wp2_with fail
    refine (hc1.out _ (below_al (Below.refl _ _) _)).mono ?_
    rintro e w1 ⟨rfl, h1⟩
    have x0 : w1.cell? ⟨w.heap.size, 0, none⟩ = some (.slice Am made.length cm) := (h1.cell (p := ⟨w.heap.size, 0, none⟩) (by simp)).trans (by simp)
    have x1 : w1.cell? ⟨w.heap.size, 1, none⟩ = some (.slice At tasks.length ct) := (h1.cell (p := ⟨w.heap.size, 1, none⟩) (by simp)).trans (by simp)
    have b1 := below_from h1
    replace b1 := Lib.hid b1
    clear h1
    go_wp2_with fail
    refine (hc3.out _ b1.out).mono ?_
    rintro e w2 ⟨rfl, h2⟩
    have b2 := below_up b1.out h2
    replace b2 := Lib.hid b2
    clear h2 x0 x1
    go_wp2_with fail
    go_ret2
    exact ⟨rfl, b2.out⟩

set_option maxHeartbeats 1000000 in
theorem specOrderTopo_bad (Am At Ak : Option Addr) (cm ct ck : Nat) (made : List Bool) (tasks : List Task) (keys : List Int) (B : Nat) (w0 w : World) (hb : Below B w0 w) (hB : B ≤ w.heap.size) (hs : SheetAt B w0 Am cm At ct made tasks) (hnod : ∀ T ∈ tasks, nodes T ≤ 1000000000) (hml : (made.length : Int) ≤ 9223372036854775807) (hx : IntsAt B w0 Ak keys) (hkl : keys.length ≤ maxLen) (hbad : safeP made tasks = true → keysOk made.length keys = false) :
    Calls Try.prog 22 #[.agg #[.slice Am made.length cm, .slice At tasks.length ct], .slice Ak keys.length ck] w fun e w' => GivesOwn w.heap.size ([], false) e w w' := by
  have hc1 := fun w1 (hw : Below w.heap.size w w1) => specSheetSafe_calls Am At cm ct made tasks B w0 w1 (below_up' hb hB hw) (Nat.le_trans hB hw.size) hs hnod
  have hc2 := fun w1 (hw : Below w.heap.size w w1) => l4Keys_calls Am At Ak cm ct ck made tasks keys B w0 w1 (below_up' hb hB hw) (Nat.le_trans hB hw.size) hs hnod hml hkl hx
  have hown0 : ((w.alloc (.cells #[.slice Am made.length cm, .slice At tasks.length ct] 31 (0, 0))).alloc (.cells #[] 3 (0, 0))).ownsRow w.heap.size 3 1 (.slice (some ⟨w.heap.size + 1, 0, none⟩) 0 0) 0 (ints []) := by
    simpa [ints] using World.ownsRow_made (base := w.heap.size) (w.alloc (.cells #[.slice Am made.length cm, .slice At tasks.length ct] 31 (0, 0))) #[] 0 (by simp) (by simp [maxLen]) rfl
  generalize safeP made tasks = d1 at *
  generalize sheetOk made tasks = d2 at *
  generalize keysOk made.length keys = d3 at *
  replace hb := Lib.hid hb
  replace hs := Lib.hid hs
  replace hx := Lib.hid hx
  replace hown0 := Lib.hid hown0
  cases d1 with
  | false =>
    replace hc1 := Lib.hid hc1
    clear hc2 hbad
    go_enter Try.func22, Try.ntmps22
    go_wp2_with fail
    refine (hc1.out _ (below_al (below_al (Below.refl _ _) _) _)).mono ?_
    rintro e w1 ⟨rfl, h1⟩
    have hown1 := ownsRow_block hown0.out (fun i hi => h1.block i (hown0.out.lt i hi).2)
    have b1 : Below w.heap.size w w1 := below_from (below_from h1)
    replace b1 := Lib.hid b1
    replace hown1 := Lib.hid hown1
    clear h1
    go_wp2_with fail
    go_ret2
    exact ⟨_, rfl, hown1.out, b1.out⟩
  | true =>
    have h3 := hbad rfl
    subst h3
    simp only [Bool.false_and] at hc2
    replace hc1 := Lib.hid hc1
    replace hc2 := Lib.hid hc2
    clear hbad
    go_enter Try.func22, Try.ntmps22
    go_wp2_with fail
    refine (hc1.out _ (below_al (below_al (Below.refl _ _) _) _)).mono ?_
    rintro e w1 ⟨rfl, h1⟩
    have hbox1 : w1.heap[w.heap.size]? = some (.cells #[.slice Am made.length cm, .slice At tasks.length ct] 31 (0, 0)) := (h1.block _ (by simp; omega)).trans ((heap_old (by simp)).trans (heap_new rfl))
    have hown1 := ownsRow_block hown0.out (fun i hi => h1.block i (hown0.out.lt i hi).2)
    have b1 : Below w.heap.size w w1 := below_from (below_from h1)
    have x0 : w1.cell? ⟨w.heap.size, 0, none⟩ = some (.slice Am made.length cm) := (cellm hbox1 0).trans rfl
    have x1 : w1.cell? ⟨w.heap.size, 1, none⟩ = some (.slice At tasks.length ct) := (cellm hbox1 1).trans rfl
    have s1 := block_lt hbox1
    replace b1 := Lib.hid b1
    replace hown1 := Lib.hid hown1
    replace hbox1 := Lib.hid hbox1
    clear h1
    go_wp2_with fail
    refine (hc2.out _ b1.out).mono ?_
    rintro e w2 ⟨rfl, h2⟩
    have hown2 := ownsRow_block hown1.out (fun i hi => h2.block i (hown1.out.lt i hi).2)
    have b2 := below_up b1.out h2
    replace b2 := Lib.hid b2
    replace hown2 := Lib.hid hown2
    clear h2 x0 x1
    go_wp2_with fail
    go_ret2
    exact ⟨_, rfl, hown2.out, b2.out⟩

/-- a topological order fits rows of one number -/
theorem fits_topo_calls (Am At Ai Ax : Option Addr) (cm ct ci cx : Nat) (made : List Bool) (tasks : List Task) (keys out : List Int) (z : Int) (hz : 0 ≤ z ∧ z ≤ 96) (X : Int → Bool) (hsafe : safeP made tasks = true) (hX : ∀ k, X k = true ↔ Reach (mkK made) (mayS made tasks) keys k) (hT : TOk X (mayS made tasks) made.length out)
    (B : Nat) (w0 w : World) (hb : Below B w0 w) (hB : B ≤ w.heap.size) (hs : SheetAt B w0 Am cm At ct made tasks) (hi : IntsAt B w0 Ai (List.replicate made.length z)) (hci : made.length ≤ ci) (hcm : ci ≤ maxLen) (hx : IntsAt B w0 Ax out) (hxc : out.length ≤ cx) (hxm : cx ≤ maxLen) :
    Calls Try.prog 16 #[.agg #[.slice Am made.length cm, .slice At tasks.length ct], .slice Ai made.length ci, .slice Ax out.length cx] w fun e w' => e = .returned (.bool true) ∧ Below w.heap.size w w' := by
  have hok : sheetOk made tasks = true := by unfold safeP at hsafe; rw [Bool.and_eq_true] at hsafe; exact hsafe.1
  have htk : takesOk made.length (List.replicate made.length z) = true := by
    unfold takesOk
    rw [Bool.and_eq_true]
    exact ⟨by simp, vals_iff.2 (fun x hx => by rw [List.mem_replicate] at hx; rw [hx.2]; exact hz)⟩
  obtain ⟨tks, rfl, hS⟩ := ok_sh hok htk
  have h := orderFits_good ⟨Am, cm, At, ct, Ai, ci, B, w0⟩ ⟨made, tks, List.replicate made.length z⟩ ⟨hs, hi, by simpa using hci, hcm, hS⟩ Ax cx out w hb hB hx hxc hxm
  have hr : orderFitsP ⟨made, tks, List.replicate made.length z⟩ out = true := by
    unfold orderFitsP
    rw [safe_build hS hsafe, topo_fits hS _ hX hT]; rfl
  rw [hr] at h
  simp only [List.length_replicate] at h
  simp only [List.length_map]
  exact h
end Go.Proofs.Ytpccgdkidnkppaa

set_option linter.unusedVariables false
set_option linter.unusedSimpArgs false
namespace Go.Proofs.Ytpccgdkidnkppaa
open Go Go.RowKit

set_option maxHeartbeats 4000000 in
theorem l91Keys_calls (R : RdEnv) (hR : R.Good) (p : Nat) (hp : p + 100 ≤ 1000000) (Am At : Option Addr) (nm cm nt ct : Nat) (w : World) (h : RdAt R p w) (hn : nm ≤ 20) :
    Calls Try.prog 69 #[.pointer (some ⟨R.g, 0, none⟩), .agg #[.slice Am nm cm, .slice At nt ct]] w (DrawIn R p 100 4 w) := by
  have hs : InSt R w (.slice Am nm cm) (.slice At nt ct) p [] (.slice (some ⟨w.heap.size + 1, 0, none⟩) 0 0) ((w.alloc (.cells #[.slice Am nm cm, .slice At nt ct] 31 (0, 0))).alloc (.cells #[] 3 (0, 0))) :=
    ⟨h.up (below_al (below_al (Below.refl _ _) _) _), ((Turn.refl _ _).alloc _).alloc _, by simpa [ints] using World.ownsRow_made (base := w.heap.size) (w.alloc (.cells #[.slice Am nm cm, .slice At nt ct] 31 (0, 0))) #[] 0 (by simp) (by simp [maxLen]) rfl, (heap_old (by simp)).trans (heap_new rfl), block_lt h.blk, h.size⟩
  have h1 := pick_calls R hR p (by omega) 3 _ hs.rd
  replace h1 := Lib.hid h1
  replace hs := Lib.hid hs
  clear h
  go_enter Try.func69, Try.ntmps69
  go_wp2_with fail
  refine h1.out.mono ?_
  rintro e w1 ⟨k, rfl, hk0, hk1, hr, ht⟩
  obtain ⟨q, rfl⟩ := Int.eq_ofNat_of_zero_le hk0
  have hq3 : q < 3 := by omega
  have hs1 := hs.out.step hr ht
  replace hs1 := Lib.hid hs1
  clear h1 hs hr ht hk1 hk0
  go_wp2_with fail
  go_loopw [5, 6] (fun o i wr => ∃ (t : Nat) (xs : List Int) (p2 : Nat), t ≤ 3 ∧ xs.length + t ≤ 3 ∧ p2 + t ≤ p + 4 ∧ p ≤ p2 ∧ i = .int .i64 t ∧ Hid (InSt R w (.slice Am nm cm) (.slice At nt ct) p2 xs o wr)) (fun _ i _ => (intOf i).toNat)
  case atStart => exact ⟨1 + q, [], p + 1, by omega, by simp; omega, by omega, by omega, by go_num, hs1⟩
  case round =>
    obtain ⟨t, xs, p2, ht3, hlen, hp2, hpp, rfl, hL⟩ := hrel
    have b0 : wr.cell? ⟨w.heap.size, 0, none⟩ = some (.slice Am nm cm) := cellm hL.out.box 0
    have hz := block_lt hL.out.box
    by_cases hgo : 0 < t ∧ 0 < nm
    · obtain ⟨ht0, hnm0⟩ := hgo
      have hc := pick_calls R hR p2 (by omega) nm wr.drew (hL.out.rd.up (Below.refl _ _).drew)
      have hwz := hL.out.turn.size
      replace hc := Lib.hid hc
      go_wp2_with fail
      go_region_held3 (fun w' => w'.cell? ⟨w.heap.size, 0, none⟩ = some (.slice Am nm cm)) (first | exact k4 | exact k0 | exact (cell_al hz2).trans k0 | exact b0)
        (first
          | ((with_reducible refine step_app1 (by rfl) (.tmp 21) (.tmp 33) 26 (by rfl) intTy w.heap.size u5 xs.length (ints xs) (by with_unfolding_all rfl) (hL2.out.own.alloc _) w2.heap.size 1 [.int .i64 _] (by with_unfolding_all rfl) (by with_unfolding_all rfl) ⟨_, _, heap_alloc_new w2 _, rfl⟩ (one_int _ _) ?_ ?_ ?_ ?_); (unfold maxLen; omega); (omega); (simp; omega); intro g cap w4 hown hgrow hat; have k4 : w4.cell? ⟨w.heap.size, 0, none⟩ = some (.slice Am nm cm) := cellm (hL2.out.app hgrow hown (v' := .slice (some ⟨g, 0, none⟩) (xs.length + 1) cap)).box 0)
          | (go_at_call 70; refine hc.out.mono ?_; rintro e w2 ⟨x, rfl, hx0, hx1, hr2, ht2⟩; have hL2 := (hL.out.step (hL.out.rd.up (Below.refl _ _).drew) (Turn.refl _ _).drew).step hr2 ht2; have k0 : w2.cell? ⟨w.heap.size, 0, none⟩ = some (.slice Am nm cm) := cellm hL2.box 0; have hwz2 := hL2.turn.size; have hz2 := block_lt hL2.box; replace hL2 := Lib.hid hL2))
      all_goals
        have hL4 := hL2.out.app (v' := .slice (some ⟨g, 0, none⟩) (xs.length + 1) cap) hgrow hown
        replace hL4 := Lib.hid hL4
        clear hown hgrow hat hL hL2 k0 k4 b0
        go_wp2_with fail
        go_roundw
        case rel => exact ⟨t - 1, _, p2 + 1, by omega, by simp; omega, by omega, by omega, by go_num, hL4⟩
        case measure => simp [intOf]; omega
    · have hc := pick_calls R hR p2 (by omega) 25 wr hL.out.rd
      replace hc := Lib.hid hc
      have hcase : (¬ 0 < t) ∨ (0 < t ∧ ¬ 0 < nm) := by
        by_cases h : 0 < t
        · exact .inr ⟨h, fun h2 => hgo ⟨h, h2⟩⟩
        · exact .inl h
      clear hgo
      rcases hcase with hq1 | ⟨hq1, hq2⟩
      all_goals
        go_wp2_with fail
        refine hc.out.mono ?_
        rintro e w2 ⟨x, rfl, hx0, hx1, hr2, ht2⟩
        have hL2 := hL.out.step hr2 ht2
        have hwz2 := hL2.turn.size
        clear hc hr2 ht2 hL b0 hz
        replace hL2 := Lib.hid hL2
        by_cases hx : x = 0
        · subst hx
          have hL3 := hL2.out.alloc (.cells #[.int .i64 (-1), .int .i64 10, .int .i64 9] 3 (0, 0))
          have hnum := l91Num_calls R hR (p2 + 1) (by omega) w2.heap.size 3 [-1, 10, 9] _ hL3.rd (by simp) (by simp) (by omega) (by simp) (by have h1 := hL2.out.glt; have h2 := hL2.out.turn.size; omega)
            (by intro i hi; rw [cellm (heap_new rfl) i]; rcases (show i = 0 ∨ i = 1 ∨ i = 2 by simp at hi; omega) with rfl | rfl | rfl <;> rfl)
          replace hL3 := Lib.hid hL3
          replace hnum := Lib.hid hnum
          clear hL2
          go_wp2_with fail
          refine hnum.out.mono ?_
          rintro e w3 ⟨x3, rfl, _, hr3, ht3⟩
          have hL4 := hL3.out.step hr3 ht3
          replace hL4 := Lib.hid hL4
          clear hL3 hnum hr3 ht3
          go_wp2_with (at_builtin; go_loud (with_reducible refine wpList_app1 (by rfl) (.tmp 38) (.tmp 42) 26 (by rfl) intTy w.heap.size u5 xs.length (ints xs) (by with_unfolding_all rfl) (hL4.out.own.alloc _) w3.heap.size 1 [.int .i64 x3] (by with_unfolding_all rfl) (by with_unfolding_all rfl) ⟨_, _, heap_alloc_new w3 _, rfl⟩ (one_int _ _) ?_ ?_ ?_ ?_))
          · unfold maxLen; omega
          · omega
          · have := hL4.out.turn.size; simp; omega
          intro g cap w4 hown hgrow hat
          have hL5 := hL4.out.app (x := x3) (v' := .slice (some ⟨g, 0, none⟩) (xs.length + 1) cap) hgrow hown
          replace hL5 := Lib.hid hL5
          clear hown hgrow hat hL4
          go_wp2_with fail
          go_ret
          exact ⟨p2 + 1 + 1, xs ++ [x3], _, rfl, by simp; omega, by omega, by omega, hL5.out.rd, hL5.out.turn, hL5.out.own⟩
        · have hx' : (x == 0) = false := by simp [hx]
          go_wp2_with fail
          go_ret
          exact ⟨p2 + 1, xs, u5, rfl, by omega, by omega, by omega, hL2.out.rd, hL2.out.turn, hL2.out.own⟩
end Go.Proofs.Ytpccgdkidnkppaa

set_option linter.unusedVariables false
set_option linter.unusedSimpArgs false
namespace Go.Proofs.Ytpccgdkidnkppaa
open Go Go.RowKit

set_option maxHeartbeats 2000000 in
theorem drawOrderTopo_calls (A : Option Addr) (c : Nat) (bytes : List Int) (B : Nat) (w0 w : World) (hb : Below B w0 w) (hB : B ≤ w.heap.size) (hx : RowAt (fun b : Int => Value.int .u8 b) B w0 A bytes) (hl : bytes.length ≤ c) (hc : c ≤ maxLen) (hby : ∀ b ∈ bytes, 0 ≤ b ∧ b ≤ 255) :
    Calls Try.prog 20 #[.slice A bytes.length c] w (DrawAllP w) := by
  have h0 := l6Open_calls A c bytes B w0 (w.alloc (.cells #[.slice none 0 0, .slice none 0 0] 31 (0, 0))) (below_al' hb _ hB) (by simp; omega) hx hl hc hby
  replace h0 := Lib.hid h0
  clear hb hx hby hl hc
  go_enter Try.func20, Try.ntmps20
  go_wp2_with fail
  refine h0.out.mono ?_
  rintro e w1 ⟨R, rfl, hR, hRB, hRw, hRg, hrd, hb1⟩
  have h1 := l91Sheet_calls R hR 0 (by omega) w1 hrd
  have hgl := block_lt hrd.blk
  have hres1 := (hb1.block w.heap.size (by simp)).trans (heap_new rfl)
  have hz1 : w.heap.size < w1.heap.size := by have := hb1.size; simp at this; omega
  have hg0 : w.heap.size < R.g := by simp at hRg; omega
  have hbw := below_from hb1
  replace h1 := Lib.hid h1
  clear hb1 h0 hRg
  go_wp2_with fail
  refine h1.out.mono ?_
  rintro e w2 ⟨p2, G, made, ts, vm, vt, rfl, hml, hm8, hm2, hp0, hp2, hrd2, ht2, hsh2⟩
  replace hml := Lib.hid hml
  obtain ⟨Am, cm, rfl, -⟩ := ownsRow_cells hsh2.om
  obtain ⟨At, ct, rfl, -⟩ := ownsRow_cells hsh2.ot
  have hz2 : w1.heap.size ≤ w2.heap.size := ht2.size
  have hres2 := (ht2.block _ hz1 (fun e => by omega)).trans hres1
  have hbw2 : Below w.heap.size w w2 := hbw.trans (ht2.below (Nat.le_of_lt hz1) (fun i e => by cases e; omega))
  have hal := below_al (Below.refl _ w2) (.cells #[.slice Am made.length cm, .slice At ts.length ct] 31 (0, 0))
  have h2 := l91Keys_calls R hR p2 (by omega) Am At made.length cm ts.length ct _ (hrd2.up hal) (by omega)
  have hsh3 := hsh2.pick (below_turn hal) hz2
  have hres3 := (hal.block _ (by omega)).trans hres2
  have hbw3 : Below w.heap.size w _ := hbw2.trans (hal.mono (by omega))
  have hbox3 := heap_alloc_new w2 (.cells #[.slice Am made.length cm, .slice At ts.length ct] 31 (0, 0))
  replace h2 := Lib.hid h2
  clear h1 hrd2 ht2 hsh2 hres2 hbw2 hal hbw hres1 hrd
  go_wp2_with fail
  refine h2.out.mono ?_
  rintro e w3 ⟨p3, xs, vi, rfl, hxl, hp3, hp3', hrd3, ht3, hown3⟩
  obtain ⟨Ai, ci, rfl, -⟩ := ownsRow_ints hown3
  have hsi : ShIn R.g R.B w1.heap.size (w2.heap.size + 1) G made ts _ _ _ xs w3 := ⟨hsh3.pick ht3 (by simp; omega), by simpa using hown3, by omega⟩
  have hres4 := (ht3.block _ (by simp; omega) (fun e => by omega)).trans hres3
  have hbox4 := (ht3.block _ (by simp) (fun e => by omega)).trans hbox3
  have hbw4 : Below w.heap.size w w3 := hbw3.trans (ht3.below (by simp; omega) (fun i e => by cases e; omega))
  have hz3 : w2.heap.size < w3.heap.size := by have := ht3.size; simp at this; omega
  clear h2 hsh3 hres3 hbw3 hbox3 ht3 hown3 hrd3
  have hsi4 := hsi
  have hres := hres4
  have hbox := hbox4
  have hbw := hbw4
  have hz4 : w3.heap.size ≤ w3.heap.size := Nat.le_refl _
  clear hsi hres4 hbox4 hbw4
  have x0 : w3.cell? ⟨w2.heap.size, 0, none⟩ = some (.slice Am made.length cm) := cellm hbox 0
  have x1 : w3.cell? ⟨w2.heap.size, 1, none⟩ = some (.slice At ts.length ct) := cellm hbox 1
  have y0 : w3.cell? ⟨w.heap.size, 0, none⟩ = some (.slice none 0 0) := cellm hres 0
  have y1 : w3.cell? ⟨w.heap.size, 1, none⟩ = some (.slice none 0 0) := cellm hres 1
  have f0 : w3.frozen? ⟨w.heap.size, 0, none⟩ = false := frozenm hres 0
  have f1 : w3.frozen? ⟨w.heap.size, 1, none⟩ = false := frozenm hres 1
  have hsi5 := (hsi4.set (show w.heap.size < w1.heap.size by omega) (show w.heap.size < w2.heap.size + 1 by omega) 0 (.slice Am made.length cm)).set (show w.heap.size < w1.heap.size by omega) (show w.heap.size < w2.heap.size + 1 by omega) 1 (.slice At ts.length ct)
  have hbw5 := (hbw.setCell (p := ⟨w.heap.size, 0, none⟩) (Nat.le_refl _) (.slice Am made.length cm)).setCell (p := ⟨w.heap.size, 1, none⟩) (Nat.le_refl _) (.slice At ts.length ct)
  have hW := setCell_block (setCell_block hres 0 (.slice Am made.length cm)) 1 (.slice At ts.length ct)
  have hfin := hsi5.all hml.out hm8 (by omega) hbw5
  replace hfin := Lib.hid hfin
  replace hW := Lib.hid hW
  have z9 : w2.heap.size < w3.heap.size := by omega
  clear hsi4 hsi5 hbw5 hbw hbox hres
  go_wp2_with fail
  exact ret_sheet1 rfl rfl rfl (hW.out.trans rfl) hfin.out
end Go.Proofs.Ytpccgdkidnkppaa
