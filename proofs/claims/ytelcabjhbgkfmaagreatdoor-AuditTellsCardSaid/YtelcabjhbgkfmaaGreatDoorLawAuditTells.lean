/- AuditTells: the walk. -/
import Derived.Test.YtelcabjhbgkfmaaGreatDoorAuditW
import Derived.Test.YtelcabjhbgkfmaaGreatDoorRTile
import Derived.Test.YtelcabjhbgkfmaaGreatDoorRE5
import Derived.Test.YtelcabjhbgkfmaaGreatDoorRVerify
import Derived.Test.YtelcabjhbgkfmaaGreatDoorError
import Derived.Test.YtelcabjhbgkfmaaGreatDoorOpenL
import Derived.Test.YtelcabjhbgkfmaaGreatDoorForkP
import Derived.Deep.DeepCutAuto
import Derived.Deep.CutRange
import Derived.Deep.CutBlock
namespace Go.Proofs.YtelcabjhbgkfmaaGreatDoor.auditTells
open Go.RowKit Go.WideShapes
set_option linter.unusedVariables false
attribute [local go_sem ↓] Go.wp_at_zero Go.wp_at_succ

set_option maxRecDepth 100000 in
set_option maxHeartbeats 1000000 in
theorem Lists_same (A A' : Option Addr) (n c c' : Nat) (vs vs' : List Value) (xss : List (List Int)) (w : World) (hr : Rd w 1 A n c vs) (hr' : Rd w 1 A' n c' vs') (hl : LLd w vs xss) (hl' : LLd w vs' xss) (hm : c ≤ maxLen) (hm' : c' ≤ maxLen) :
    Calls Tryz.prog 29 #[.slice A n c, .slice A' n c'] w fun e w' => e = .returned (.bool true) ∧ Ext w w' := by
  have hx : xss.length = n := by have := hr.1; have := hl.1; omega
  have HX := Lib.hid hx
  have h1 := hr.2.1
  have h2 := hr'.2.1
  have HR := Lib.hid hr
  have HR' := Lib.hid hr'
  have HL := Lib.hid hl
  have HL' := Lib.hid hl'
  unfold maxLen at hm hm'
  clear hx hr hr' hl hl'
  go_enter Tryz.func29, Tryz.ntmps29
  go_wp2_with fail
  go_loopw [5] (fun x wr => ∃ j : Nat, x = .int .i64 j ∧ j ≤ n ∧ Ext w wr) (fun x _ => n - (intOf x).toNat)
  case atStart => exact ⟨0, rfl, Nat.zero_le _, by (repeat (with_reducible first | exact Ext.refl _ | assumption | refine Ext.drew ?_ | refine Ext.drewN ?_ _ | refine Ext.alloc ?_ _ | refine Ext.trans ?_ (by with_reducible assumption)))⟩
  case round =>
    obtain ⟨j, rfl, hj, hbw⟩ := hrel
    by_cases hc : j < n
    · have hgj := List.getElem?_eq_getElem (l := xss) (i := j) (by rw [HX.out]; exact hc)
      generalize xss[j]'(by rw [HX.out]; exact hc) = xs at *
      obtain ⟨Ay, cy, gy, hcy, Ry⟩ := HL.out.2 j xs hgj
      obtain ⟨Az, cz, gz, hcz, Rz⟩ := HL'.out.2 j xs hgj
      obtain ⟨ad, rfl, hb, c0⟩ := (HR.out.ext hbw).at_ gy
      obtain ⟨ad', rfl, hb', c0'⟩ := (HR'.out.ext hbw).at_ gz
      have HI := Lib.hid fun W (e : Ext wr W) => Ints_any Ay Az xs.length xs.length cy cz xs xs W ((Ry.ext hbw).ext e) ((Rz.ext hbw).ext e) hcy hcz
      rw [sameB_self] at HI
      have hcN : (j : Int) < (n : Int) := by omega
      have f0 := WE.row c0 (by rw [blk_add]; exact hb)
      have f1 := WE.row c0' (by rw [blk_add]; exact hb')
      clear c0 c0' hgj gy gz Ry Rz
      go_upto_region 6 with (fail)
      (refine wp_region_ext (w0 := wr) (by kernel_rfl) (by kernel_rfl) (by (repeat (with_reducible first | exact Ext.refl _ | assumption | refine Ext.drew ?_ | refine Ext.drewN ?_ _ | refine Ext.alloc ?_ _ | refine Ext.trans ?_ (by with_reducible assumption)))) ?_; (repeat (go_big_quiet_step ((go_at_call 30; exact quietE (HI.out _ (WE.h _)))))); refine wpQuiet_nil ?_)
      intro w3 hb3
      clear f0 f1
      have e3 := hbw.trans hb3
      go_wp2_with fail
      go_roundw
      case rel => exact ⟨j + 1, by go_num, by omega, e3⟩
      case measure => simp [intOf]; omega
    · go_wp2_with fail
      go_ret
      exact ⟨rfl, hbw⟩
theorem LLd.of_rows {w : World} {rs : List (RowG Int)} (h : ∀ r ∈ rs, r.good w 1 icells igood) : LLd w (rs.flatMap RowG.cells) (rs.map RowG.xs) := by
  rw [flat_rows]
  refine ⟨by rw [List.length_map, List.length_map], fun i xs hx => ?_⟩
  rw [List.getElem?_map] at hx
  cases hr : rs[i]? with
  | none => rw [hr] at hx; cases hx
  | some r =>
    rw [hr] at hx
    obtain rfl : r.xs = xs := by simpa using hx
    obtain ⟨h1, h2, h3, h4⟩ := h r (List.mem_of_getElem? hr)
    refine ⟨r.A, r.c, ?_, h2, ?_⟩
    · rw [List.getElem?_map, hr, h1]; rfl
    · rw [flat_icells] at h3
      rw [h1]; exact h3

/-- entries with a fault -/
def noK (vk ek : Int) : Int := if vk = 0 then ek else vk
set_option maxRecDepth 100000 in
set_option maxHeartbeats 4000000 in
theorem walk_no (A : Option Addr) (n c : Nat) (es : List Ent) (h : Hd) (key : Int) (A' : Option Addr) (m c' : Nat) (vs : List Value) (ys : List (List Int)) (w : World)
    (hm : c ≤ maxLen) (hr : Rd w 2 A n c (es.flatMap Ent.cells)) (hm' : c' ≤ maxLen) (hr' : Rd w 1 A' m c' vs) (hl' : LLd w vs ys) (hD : DebG w) (hP : PowG w) (hg : ErrG w) (hk : entsErr es ≠ 0) :
    Calls Tryz.prog 4 #[.slice A n c, h.val, .int .i64 key, .slice A' m c'] w fun e w' => e = .returned (.bool true) ∧ Ext w w' := by
  obtain ⟨hE, hN, hG0⟩ := errR_rules
  have hnc := hr.2.1
  have hmc := hr'.2.1
  have hcs : c ≤ 9223372036854775807 := by unfold maxLen at hm; omega
  have hcs' : c' ≤ 9223372036854775807 := by unfold maxLen at hm'; omega
  have hyl : ys.length = m := by have := hr'.1; have := hl'.1; omega
  have HV := Lib.hid fun W => RVerify_any h key W
  have HRE := Lib.hid fun W (e : Ext w W) => REntries_any A n c es W (hr.ext e) hm
  have HW := Lib.hid fun W (e : Ext w W) => AWhole_any A n c es h key W (hD.ext e) (hP.ext e) (hr.ext e) hm
  have HT := Lib.hid fun W (e : Ext w W) => ATiles_any A n c es W (hr.ext e) hm
  have HB := Lib.hid fun W (e : Ext w W) => ABad_any A n c es A' m c' vs ys W (hr.ext e) hm (hr'.ext e) hm' (hl'.ext e)
  have h1 : tilesV es = [] := if_neg hk
  have h2 : badK es m = entsErr es := if_pos hk
  have h3 : badV es ys = [] := by unfold badV; rw [hyl, h2, if_neg hk]
  have h4 : whlK es h key = noK (verK h key) (entsErr es) := by
    unfold whlK noK
    by_cases e : verK h key = 0
    · rw [if_neg (not_not_intro e), if_pos hk, if_pos e]
    · rw [if_pos e, if_neg e]
  rw [h1] at HT
  rw [h2, h3] at HB
  rw [h4] at HW
  have HG := Lib.hid hg
  obtain ⟨vk, hvk⟩ : ∃ v, verK h key = v := ⟨_, rfl⟩
  obtain ⟨ek, hek⟩ : ∃ v, entsErr es = v := ⟨_, rfl⟩
  rw [hvk] at HV HW
  rw [hek] at HRE HW HT HB hk
  have HNK : Hid (noK vk ek ≠ 0) := by
    refine Lib.hid ?_
    unfold noK; split
    · exact hk
    · assumption
  have HK0 : Hid (∀ b, (vk == 0) = b → (if b then ek else vk) = noK vk ek) := Lib.hid fun b hb => by
    subst hb; unfold noK
    by_cases e : vk = 0
    · rw [if_pos e, if_pos (by simp [e])]
    · rw [if_neg e, if_neg (by simp [e])]
  obtain ⟨nk, hnk⟩ : ∃ v, noK vk ek = v := ⟨_, rfl⟩
  rw [hnk] at HW HNK HK0
  have hek0 : (ek == 0) = false := by simp [hk]
  have hnk0 : (nk == 0) = false := by simpa using HNK.out
  clear h1 h2 h3 h4 hvk hek hnk hD hP hg hr hr' hl' hyl hk HNK
  obtain ⟨a0, a1, a2, a3⟩ := h
  simp only [Hd.val] at *
  have A0 := Bk.at_ w 23 #[.int .i64 a0, .int .i64 a1, .int .i64 a2, .int .i64 a3] w.heap.size rfl
  have e0 : Ext w (w.alloc (.cells #[.int .i64 a0, .int .i64 a1, .int .i64 a2, .int .i64 a3] 23)) := by (repeat (with_reducible first | exact Ext.refl _ | assumption | refine Ext.drew ?_ | refine Ext.drewN ?_ _ | refine Ext.alloc ?_ _ | refine Ext.trans ?_ (by with_reducible assumption)))
  go_enter Tryz.func4, Tryz.ntmps4
  go_upto_region 1 with (fail)
  generalize (w.alloc (.cells #[.int .i64 a0, .int .i64 a1, .int .i64 a2, .int .i64 a3] 23)) = W0 at *
  obtain ⟨g0, hg0⟩ : ∃ g, w.heap.size = g := ⟨_, rfl⟩
  rw [hg0] at A0
  try rw [hg0]
  have HE0 := Lib.hid e0
  clear e0 hg0
  have y0 := A0.cell 0
  have y1 := A0.cell 1
  have y2 := A0.cell 2
  have y3 := A0.cell 3
  go_wp2_with fail
  refine (HV.out _).mono ?_
  rintro _ w1 ⟨rfl, hb1⟩
  have HE1 := Lib.hid (HE0.out.trans hb1)
  go_wp2_with fail
  refine (HRE.out _ HE1.out).mono ?_
  rintro _ w2 ⟨rfl, hb2⟩
  have HE2 := Lib.hid (HE1.out.trans hb2)
  have A2 := (A0.ext hb1).ext hb2
  clear y0 y1 y2 y3 HV HRE HE0 HE1 hb1 hb2 A0
  go_upto_if 33 with (fail)
  obtain ⟨kb, hkb⟩ : ∃ kb : Bool, (vk == 0) = kb := ⟨_, rfl⟩
  rw [hkb]
  have HKB := Lib.hid hkb
  clear hkb
  go_cut [9] (fun v wc => v = .int .i64 nk ∧ w2 = wc)
  case first =>
    as_aux_lemma =>
    have h := HK0.out kb HKB.out
    cases kb with
    | true =>
      obtain rfl : ek = nk := h
      go_wp2_with fail
      go_meet
      exact ⟨rfl, rfl⟩
    | false =>
      obtain rfl : vk = nk := h
      go_wp2_with fail
      go_meet
      exact ⟨rfl, rfl⟩
  case rest =>
  as_aux_lemma =>
  obtain ⟨rfl, rfl⟩ := hcut
  have y0 := A2.cell 0
  have y1 := A2.cell 1
  have y2 := A2.cell 2
  have y3 := A2.cell 3
  go_upto_region 10 with (fail)
  go_cut [56] (fun v wc => v = .bool false ∧ Ext w2 wc)
  case first =>
    as_aux_lemma =>
    go_quiet (fail)
    go_wp2_with fail
    go_meet
    exact ⟨rfl, by (repeat (with_reducible first | exact Ext.refl _ | assumption | refine Ext.drew ?_ | refine Ext.drewN ?_ _ | refine Ext.alloc ?_ _ | refine Ext.trans ?_ (by with_reducible assumption)))⟩
  case rest =>
  as_aux_lemma =>
  obtain ⟨rfl, hb3⟩ := hcut
  obtain ⟨w3, rfl⟩ : ∃ W, W = wc := ⟨_, rfl⟩
  have HE3 := Lib.hid (HE2.out.trans hb3)
  have A3 := A2.ext hb3
  clear y0 y1 y2 y3 HE2 A2 hb3
  have y0 := A3.cell 0
  have y1 := A3.cell 1
  have y2 := A3.cell 2
  have y3 := A3.cell 3
  go_wp2_with fail
  refine (HW.out _ HE3.out).mono ?_
  rintro _ w4 ⟨rfl, hb4⟩
  have e4 := HE3.out.trans hb4
  go_wp2_with fail
  refine (Error_is nk _ (HG.out.ext e4)).mono ?_
  rintro _ w5 ⟨rfl, hb5⟩
  have HE5 := Lib.hid (e4.trans hb5)
  clear y0 y1 y2 y3 A3 HW HE3 e4 hb4 hb5
  go_wp2_with fail
  go_loopw [13, 15] (fun v x wr => v = .slice none 0 0 ∧ x = .int .i64 0 ∧ w5 = wr) (fun _ _ _ => 0)
  case atStart => exact ⟨rfl, rfl, rfl⟩
  case round =>
    obtain ⟨rfl, rfl, rfl⟩ := hrel
    go_wp2_with fail
    refine (HT.out _ HE5.out).mono ?_
    rintro _ w6 ⟨⟨v6, rfl, own6⟩, hb6⟩
    obtain ⟨A6, c6, vs6, rfl, hc6, R6, L6⟩ := own6.rd
    rw [show ([] : List (List Int)).length = 0 from rfl] at R6 ⊢
    have e6 := HE5.out.trans hb6
    go_wp2_with fail
    refine (Error_is ek _ (HG.out.ext e6)).mono ?_
    rintro _ w7 ⟨rfl, hb7⟩
    have e7 := e6.trans hb7
    go_wp2_with fail
    refine (Lists_same A6 none 0 c6 0 vs6 [] [] _ (R6.ext hb7) (Rd.nil _ _ _ _) (L6.ext hb7) (LLd.nil _) hc6 (Nat.zero_le _)).mono ?_
    rintro _ w8 ⟨rfl, hb8⟩
    have HE8 := Lib.hid (e7.trans hb8)
    clear own6 R6 L6 hb6 hb7 hb8 e6 e7 HE5 HT
    go_wp2_with fail
    go_loopw [21, 22] (fun v x wr => v = .slice none 0 0 ∧ x = .int .i64 0 ∧ w8 = wr) (fun _ _ _ => 0)
    case atStart => exact ⟨rfl, rfl, rfl⟩
    case round =>
      obtain ⟨rfl, rfl, rfl⟩ := hrel
      go_wp2_with fail
      refine (HB.out _ HE8.out).mono ?_
      rintro _ w9 ⟨⟨v9, rfl, own9⟩, hb9⟩
      obtain ⟨A9, c9, rfl, hc9, R9, -⟩ := own_rd own9
      rw [show ([] : List Tl).length = 0 from rfl] at R9 ⊢
      have e9 := HE8.out.trans hb9
      go_wp2_with fail
      refine (Error_is ek _ (HG.out.ext e9)).mono ?_
      rintro _ w10 ⟨rfl, hb10⟩
      have e10 := e9.trans hb10
      go_wp2_with fail
      refine (Tiles_same A9 none 0 c9 0 [] _ (R9.ext hb10) (Rd.nil _ _ _ _) rfl (by omega)).mono ?_
      rintro _ w11 ⟨rfl, hb11⟩
      have e11 := e10.trans hb11
      go_wp2_with fail
      go_ret
      exact ⟨rfl, e11⟩

set_option maxRecDepth 100000 in
set_option maxHeartbeats 8000000 in
theorem walk_yes (A : Option Addr) (n c : Nat) (es : List Ent) (h : Hd) (key : Int) (A' : Option Addr) (m c' : Nat) (vs : List Value) (ys : List (List Int)) (w : World)
    (hm : c ≤ maxLen) (hr : Rd w 2 A n c (es.flatMap Ent.cells)) (hm' : c' ≤ maxLen) (hr' : Rd w 1 A' m c' vs) (hl' : LLd w vs ys) (hD : DebG w) (hP : PowG w) (hg : ErrG w) (hk : entsOk es) :
    Calls Tryz.prog 4 #[.slice A n c, h.val, .int .i64 key, .slice A' m c'] w fun e w' => e = .returned (.bool true) ∧ Ext w w' := by
  obtain ⟨hE, hN, hG0⟩ := errR_rules
  have hnc := hr.2.1
  have hmc := hr'.2.1
  have hcs : c ≤ 9223372036854775807 := by unfold maxLen at hm; omega
  have hcs' : c' ≤ 9223372036854775807 := by unfold maxLen at hm'; omega
  have hx := hr.lenE
  have hn : n ≤ 200 := by have := hk.1; omega
  have hyl : ys.length = m := by have := hr'.1; have := hl'.1; omega
  have hek := entsErr_ok hk
  have hlo := leafs_of_ents hk
  have hxl : (es.map Ent.leaf).length = n := by rw [List.length_map, hx]
  have hT : tilesT es = allT n 4 := by unfold tilesT; rw [if_pos hek, hx]
  have hTV := tilesV_map es
  have hll := allT_len n hn 4
  have HM := Lib.hid (allT_mem n 4)
  have HV := Lib.hid fun W => RVerify_any h key W
  have HRE := Lib.hid fun W (e : Ext w W) => REntries_any A n c es W (hr.ext e) hm
  have HRL := Lib.hid fun W (e : Ext w W) => REntryLeafs_ok A n c es W (hr.ext e) hm hk
  have HW := Lib.hid fun W (e : Ext w W) => AWhole_any A n c es h key W (hD.ext e) (hP.ext e) (hr.ext e) hm
  have HTI := Lib.hid fun W (e : Ext w W) => ATiles_any A n c es W (hr.ext e) hm
  have HB := Lib.hid fun W (e : Ext w W) => ABad_any A n c es A' m c' vs ys W (hr.ext e) hm (hr'.ext e) hm' (hl'.ext e)
  have HRT := Lib.hid fun W => RTiles_any n W hn
  have hWK : whlK es h key = if verK h key ≠ 0 then verK h key else if (n : Int) ≠ h.size then 3 else if ofL (es.map Ent.leaf) ≠ h.root then 8 else 0 := by
    unfold whlK; rw [hek, hx]; simp
  have hBK : badK es m = if m ≠ (allT n 4).length then 3 else 0 := by unfold badK; rw [hek, hT]; simp
  have hBV : badV es ys = if m = (allT n 4).length then badJ (allT n 4) ys (tilesV es) m else [] := by
    unfold badV
    rw [hyl, hBK, hT]
    by_cases e : m = (allT n 4).length
    · rw [if_neg (not_not_intro e), if_pos rfl, if_pos e, ← e]
    · rw [if_pos e, if_neg (by decide), if_neg e]
  rw [hek] at HRE HTI
  rw [hT] at hTV
  rw [hTV] at HTI hBV
  obtain ⟨T, hTT⟩ : ∃ T, allT n 4 = T := ⟨_, rfl⟩
  rw [hTT] at HRT HM hll hBK hBV HTI
  obtain ⟨xs, hxs⟩ : ∃ xs, es.map Ent.leaf = xs := ⟨_, rfl⟩
  rw [hxs] at HRL HTI hBV hWK hlo hxl
  have HLO := Lib.hid hlo
  obtain ⟨rt, hrt⟩ : ∃ v, ofL xs = v := ⟨_, rfl⟩
  have HRO := Lib.hid fun B d W (hB : Rd W 1 B n d (xs.map (Value.int .i64))) (hd : d ≤ maxLen) => RRoot_any n B n d xs W (Nat.le_refl _) hB hd (by omega) hlo.2
  rw [hrt] at HRO hWK
  obtain ⟨vk, hvk⟩ : ∃ v, verK h key = v := ⟨_, rfl⟩
  obtain ⟨wk, hwk⟩ : ∃ v, whlK es h key = v := ⟨_, rfl⟩
  obtain ⟨bk, hbk⟩ : ∃ v, badK es m = v := ⟨_, rfl⟩
  obtain ⟨bv, hbv⟩ : ∃ v, badV es ys = v := ⟨_, rfl⟩
  rw [hvk] at HV hWK
  rw [hwk] at HW hWK
  rw [hbk] at HB hBK
  rw [hbv] at HB hBV
  have HWK := Lib.hid hWK
  have HBK := Lib.hid hBK
  have HBV := Lib.hid hBV
  have HG := Lib.hid hg
  have HYL := Lib.hid hyl
  have HXL := Lib.hid hxl
  have HR' := Lib.hid hr'
  have HL' := Lib.hid hl'
  have HTN := Lib.hid hTT
  clear hvk hwk hbk hbv hWK hBK hBV hD hP hg hr hr' hl' hyl hk hek hx hlo hxl hT hTV hTT hxs hrt
  obtain ⟨a0, a1, a2, a3⟩ := h
  simp only [Hd.val] at *
  have A0 := Bk.at_ w 23 #[.int .i64 a0, .int .i64 a1, .int .i64 a2, .int .i64 a3] w.heap.size rfl
  have e0 : Ext w (w.alloc (.cells #[.int .i64 a0, .int .i64 a1, .int .i64 a2, .int .i64 a3] 23)) := by (repeat (with_reducible first | exact Ext.refl _ | assumption | refine Ext.drew ?_ | refine Ext.drewN ?_ _ | refine Ext.alloc ?_ _ | refine Ext.trans ?_ (by with_reducible assumption)))
  obtain ⟨i0, hi0, hz0, hz1, hz2⟩ := info_parts info_ints
  obtain ⟨j0, hj0, hy0, hy1, hy2⟩ := info_parts info_tile
  go_enter Tryz.func4, Tryz.ntmps4
  go_upto_region 1 with (fail)
  generalize (w.alloc (.cells #[.int .i64 a0, .int .i64 a1, .int .i64 a2, .int .i64 a3] 23)) = W0 at *
  obtain ⟨g0, hg0⟩ : ∃ g, w.heap.size = g := ⟨_, rfl⟩
  rw [hg0] at A0
  try rw [hg0]
  have HE0 := Lib.hid e0
  clear e0 hg0
  have y0 := A0.cell 0
  have y1 := A0.cell 1
  have y2 := A0.cell 2
  have y3 := A0.cell 3
  go_wp2_with fail
  refine (HV.out _).mono ?_
  rintro _ w1 ⟨rfl, hb1⟩
  have HE1 := Lib.hid (HE0.out.trans hb1)
  go_wp2_with fail
  refine (HRE.out _ HE1.out).mono ?_
  rintro _ w2 ⟨rfl, hb2⟩
  have HE2 := Lib.hid (HE1.out.trans hb2)
  have HA2 := Lib.hid ((A0.ext hb1).ext hb2)
  clear y0 y1 y2 y3 HV HRE HE0 HE1 hb1 hb2 A0
  go_upto_if 33 with (fail)
  obtain ⟨kb, hkb⟩ : ∃ kb : Bool, (vk == 0) = kb := ⟨_, rfl⟩
  rw [hkb]
  have HKB := Lib.hid hkb
  clear hkb
  go_cut [9] (fun v wc => v = .int .i64 vk ∧ w2 = wc)
  case first =>
    as_aux_lemma =>
    cases kb with
    | true =>
      obtain rfl : vk = 0 := by simpa using HKB.out
      go_wp2_with fail
      go_meet
      exact ⟨rfl, rfl⟩
    | false =>
      go_wp2_with fail
      go_meet
      exact ⟨rfl, rfl⟩
  case rest =>
  as_aux_lemma =>
  obtain ⟨rfl, rfl⟩ := hcut
  go_wp2_with fail
  refine (HRL.out _ HE2.out).mono ?_
  rintro _ w3 ⟨⟨v3, rfl, own3⟩, hb3⟩
  obtain ⟨A3, c3, rfl, hc3, R3⟩ := own3.rd
  rw [HXL.out] at R3 ⊢
  have HR3 := Lib.hid R3
  have HE3 := Lib.hid (HE2.out.trans hb3)
  have HA3 := Lib.hid (HA2.out.ext hb3)
  clear own3 R3 hb3 HE2 HA2 HRL
  have y0 := HA3.out.cell 0
  go_upto_region 8 with (fail)
  obtain ⟨tb, htb⟩ : ∃ t : Bool, decide (vk = 0 ∧ (n : Int) ≠ a0) = t := ⟨_, rfl⟩
  have HTB := Lib.hid htb
  clear htb
  go_cut [47] (fun v wc => v = .bool tb ∧ w3 = wc)
  case first =>
    as_aux_lemma =>
    by_cases h0 : vk = 0
    · subst h0
      by_cases h1 : (n : Int) = a0
      · obtain rfl : tb = false := by rw [← HTB.out]; simp [h1]
        subst h1
        go_wp2_with fail
        go_meet
        exact ⟨rfl, rfl⟩
      · obtain rfl : tb = true := by rw [← HTB.out]; simp [h1]
        have q1 : ((n : Int) != a0) = true := by simp [h1]
        have q2 : ((n : Int) == a0) = false := by simp [h1]
        clear h1
        go_wp2_with fail
        go_meet
        exact ⟨rfl, rfl⟩
    · obtain rfl : tb = false := by rw [← HTB.out]; simp [h0]
      have q2 : (vk == 0) = false := by simp [h0]
      clear h0
      go_wp2_with fail
      go_meet
      exact ⟨rfl, rfl⟩
  case rest =>
  as_aux_lemma =>
  obtain ⟨rfl, rfl⟩ := hcut
  go_upto_if 47 with (fail)
  go_cut [9] (fun v wc => v = .int .i64 wk ∧ Ext w3 wc)
  case first =>
    as_aux_lemma =>
    cases tb with
    | true =>
      obtain ⟨h0, h1⟩ := of_decide_eq_true HTB.out
      obtain rfl : wk = 3 := HWK.out.trans (by rw [if_neg (not_not_intro h0), if_pos h1])
      clear h0 h1
      go_wp2_with fail
      go_meet
      exact ⟨rfl, Ext.refl _⟩
    | false =>
      have hn2 := of_decide_eq_false HTB.out
      by_cases h0 : vk = 0
      · subst h0
        have h1 : (n : Int) = a0 := Decidable.byContradiction fun h => hn2 ⟨rfl, h⟩
        have hw2 : wk = if rt ≠ a1 then 8 else 0 := HWK.out.trans (by rw [if_neg (not_not_intro rfl), if_neg (not_not_intro h1)])
        have HW2 := Lib.hid hw2
        clear h1 hw2 hn2
        have x1 : ∀ x : WE w3, x.W.cell? ⟨g0, 1, none⟩ = some (.int .i64 a1) := fun x => (HA3.out.ext x.h).cell 1
        have HOF := Lib.hid fun W (e : Ext w3 W) => HRO.out A3 c3 W (HR3.out.ext e) hc3
        go_upto_region 10 with (fail)
        (refine wp_region_ext (w0 := w3) (by kernel_rfl) (by kernel_rfl) (by (repeat (with_reducible first | exact Ext.refl _ | assumption | refine Ext.drew ?_ | refine Ext.drewN ?_ _ | refine Ext.alloc ?_ _ | refine Ext.trans ?_ (by with_reducible assumption)))) ?_; (repeat (go_big_quiet_step ((go_at_call 24; exact quietE (HOF.out _ (WE.h _)))))); refine wpQuiet_nil ?_)
        intro w4 hb4
        clear x1
        by_cases h8 : rt = a1
        · obtain rfl : wk = 0 := HW2.out.trans (if_neg (not_not_intro h8))
          subst h8
          go_wp2_with fail
          go_meet
          exact ⟨rfl, hb4⟩
        · obtain rfl : wk = 8 := HW2.out.trans (if_pos h8)
          have q1 : (rt != a1) = true := by simp [h8]
          have q2 : (rt == a1) = false := by simp [h8]
          clear h8
          go_wp2_with fail
          go_meet
          exact ⟨rfl, hb4⟩
      · obtain rfl : wk = vk := HWK.out.trans (if_pos h0)
        have q2 : (wk == 0) = false := by simp [h0]
        clear h0 hn2
        go_upto_region 10 with (fail)
        go_quiet (fail)
        go_wp2_with fail
        go_meet
        exact ⟨rfl, by (repeat (with_reducible first | exact Ext.refl _ | assumption | refine Ext.drew ?_ | refine Ext.drewN ?_ _ | refine Ext.alloc ?_ _ | refine Ext.trans ?_ (by with_reducible assumption)))⟩
  case rest =>
  as_aux_lemma =>
  obtain ⟨rfl, hb4⟩ := hcut
  obtain ⟨w4, rfl⟩ : ∃ W, W = wc := ⟨_, rfl⟩
  have HE4 := Lib.hid (HE3.out.trans hb4)
  have HR4 := Lib.hid (HR3.out.ext hb4)
  have A4 := HA3.out.ext hb4
  clear y0 HE3 HA3 HR3 hb4 HTB HWK HRO HKB
  have y0 := A4.cell 0
  have y1 := A4.cell 1
  have y2 := A4.cell 2
  have y3 := A4.cell 3
  go_wp2_with fail
  refine (HW.out _ HE4.out).mono ?_
  rintro _ w5 ⟨rfl, hb5⟩
  have e5 := HE4.out.trans hb5
  go_wp2_with fail
  refine (Error_is wk _ (HG.out.ext e5)).mono ?_
  rintro _ w6 ⟨rfl, hb6⟩
  have e6 := e5.trans hb6
  clear y0 y1 y2 y3 A4 HW
  go_wp2_with fail
  refine (HRT.out _).mono ?_
  rintro _ w7 ⟨⟨v7, rfl, own7⟩, hb7⟩
  obtain ⟨A7, c7, rfl, hc7, R7, -⟩ := own_rd own7
  have HR7 := Lib.hid R7
  have h47 : Ext w4 w7 := (hb5.trans hb6).trans hb7
  have HE7 := Lib.hid (HE4.out.trans h47)
  have HX7 := Lib.hid (HR4.out.ext h47)
  have hT7 : T.length ≤ c7 := R7.2.1
  have hc7s : c7 ≤ 9223372036854775807 := by unfold maxLen at hc7; omega
  have hT204 : T.length ≤ 204 := by omega
  clear own7 R7 hb5 hb6 hb7 e5 e6 HE4 HR4 h47 HRT
  go_wp2_with fail
  go_loopw [13, 15] (fun v x wr => ∃ (j : Nat) (us : List Value), x = .int .i64 j ∧ j ≤ T.length ∧ Ext w7 wr ∧ Hid (wr.ownsRow w7.heap.size 46 1 v j us) ∧ Hid (LLo wr us ((T.take j).map (tlS xs)))) (fun _ x _ => T.length - (intOf x).toNat)
  case atStart => exact ⟨0, [], rfl, Nat.zero_le _, Ext.refl _, own_nil _ _ _ _, LLo.nil _⟩
  case round =>
    obtain ⟨j, us, rfl, hj, hbw, hown, hwide⟩ := hrel
    by_cases hc : j < T.length
    · have hgj := List.getElem?_eq_getElem (l := T) (i := j) hc
      obtain ⟨k, i, q, k1, k2, k3, k4, k5⟩ := HM.out _ (List.mem_of_getElem? hgj)
      obtain ⟨ad, rfl, hb, d0, d1, d2⟩ := (HR7.out.ext hbw).getT hgj
      rw [k2] at hgj d0 d1 d2
      have HTK : Hid ((T.take (j + 1)).map (tlS xs) = (T.take j).map (tlS xs) ++ [sumsT xs k i q]) := by
        refine Lib.hid ?_
        rw [List.take_add_one, hgj, List.map_append]
        rfl
      have hvl : us.length = j := by have := own_len hown.out; omega
      have hbw0 := hbw.size
      simp only at d0 d1 d2
      clear hgj k2
      go_wp2_with fail
      refine (RTileSums_any A3 n c3 xs k i q _ (HX7.out.ext hbw) hc3 HLO.out (by omega) k4 k5).mono ?_
      rintro _ w8 ⟨⟨v8, rfl, own8⟩, hb8⟩
      obtain ⟨A8, c8, rfl, -, -, -⟩ := own_rd own8
      have hs8 := hb8.size
      have ow8 : w8.ownsRow w7.heap.size 46 1 u13 j us := own_ext hown.out hb8
      have ll8 : LLo w8 (us ++ [.slice A8 (sumsT xs k i q).length c8]) ((T.take j).map (tlS xs) ++ [sumsT xs k i q]) := (hwide.out.ext hb8).snoc (own_lower own8 (Nat.zero_le _))
      rw [← HTK.out, sumsT_len] at ll8
      rw [sumsT_len]
      have HLL := Lib.hid ll8
      have HOW := Lib.hid ow8
      have e8 : Ext w7 w8 := hbw.trans hb8
      clear own8 ll8 ow8
      go_wp2_with (at_builtin; refine wpl_apps (by rfl) _ _ _ (by rfl) w7.heap.size 46 i0 _ 1 24 Tryz.underlying44 hi0 hz0 hz1 hz2 rfl (by omega) u13 _ _ (by rfl) (own_ext HOW.out ((Ext.refl _).alloc _)) ⟨w8.heap.size, 0, none⟩ 1 1 [.slice A8 q c8] (by rfl) (by rfl) (news_new w8 _ _ _ rfl) oneS (by omega) (by omega) (by omega) (by simp at hs8 ⊢; omega) ?_; intro g cap w9 own9 hg9 hor9 hlt9)
      have hb9 : Ext w7 w9 := gb_none (gb_row (gb_any ((e8.alloc _).gb none) none) hg9 (own_block HOW.out))
      have ll9 : LLo w9 (us ++ [.slice A8 q c8]) ((T.take (j + 1)).map (tlS xs)) := (HLL.out.ext ((Ext.refl _).alloc _)).kept (own_ext HOW.out ((Ext.refl _).alloc _)) hg9
      go_roundw
      case rel => exact ⟨j + 1, _, by go_num, by omega, hb9, own9, ll9⟩
      case measure => simp [intOf]; omega
    · obtain rfl : j = T.length := by omega
      have hLL := hwide.out
      rw [List.take_length] at hLL
      obtain ⟨Aw, cw, hvw, hcw, Rw, -⟩ := own_rd hown.out
      have HLw := Lib.hid hLL.rd
      have HRw := Lib.hid Rw
      have HEr := Lib.hid (HE7.out.trans hbw)
      have HR7r := Lib.hid (HR7.out.ext hbw)
      have hTw : T.length ≤ cw := Rw.2.1
      have hcws : cw ≤ 9223372036854775807 := by unfold maxLen at hcw; omega
      subst hvw
      clear hLL hwide hown Rw HR7 HX7 HE7 hbw
      go_wp2_with fail
      refine (HTI.out _ HEr.out).mono ?_
      rw [errR_0]
      rintro _ w10 ⟨⟨v10, rfl, own10⟩, hb10⟩
      obtain ⟨A10, c10, vs10, rfl, hc10, R10, L10⟩ := own10.rd
      rw [List.length_map] at R10 ⊢
      have HR10 := Lib.hid R10
      have HL10 := Lib.hid L10
      have e10 := HEr.out.trans hb10
      clear own10 R10 L10
      go_wp2_with fail
      refine (Error_is 0 _ (HG.out.ext e10)).mono ?_
      rintro _ w11 ⟨rfl, hb11⟩
      have h11 : Ext wr w11 := hb10.trans hb11
      have e11 := e10.trans hb11
      go_wp2_with fail
      refine (Lists_same A10 Aw T.length c10 cw vs10 us _ _ (HR10.out.ext hb11) (HRw.out.ext h11) (HL10.out.ext hb11) (HLw.out.ext h11) hc10 hcw).mono ?_
      rintro _ w12 ⟨rfl, hb12⟩
      have HE12 := Lib.hid (e11.trans hb12)
      have h12 := h11.trans hb12
      have HRw2 := Lib.hid (HRw.out.ext h12)
      have HLw2 := Lib.hid (HLw.out.ext h12)
      have HR12 := Lib.hid (HR7r.out.ext h12)
      clear hb10 hb11 hb12 h11 h12 e10 e11 HEr HRw HLw HR7r HR10 HL10 HTI
      by_cases hmT : m = T.length
      case neg =>
        obtain rfl : bk = 3 := HBK.out.trans (if_pos hmT)
        obtain rfl : bv = [] := HBV.out.trans (if_neg hmT)
        have q1 : ((m : Int) != (T.length : Int)) = true := by simp; omega
        have q2 : ((m : Int) == (T.length : Int)) = false := by simp; omega
        clear hmT HBK HBV
        go_wp2_with fail
        go_loopw [21, 22] (fun v x wr => v = .slice none 0 0 ∧ x = .int .i64 0 ∧ w12 = wr) (fun _ _ _ => 0)
        case atStart => exact ⟨rfl, rfl, rfl⟩
        case round =>
          obtain ⟨rfl, rfl, rfl⟩ := hrel
          by_cases h0 : 0 < T.length
          all_goals
            first | (have h0i : (0 : Int) < (T.length : Int) := by omega) | skip
            go_wp2_with fail
            refine (HB.out _ HE12.out).mono ?_
            rintro _ w13 ⟨⟨v13, rfl, own13⟩, hb13⟩
            obtain ⟨A13, c13, rfl, hc13, R13, -⟩ := own_rd own13
            rw [show ([] : List Tl).length = 0 from rfl] at R13 ⊢
            have e13 := HE12.out.trans hb13
            go_wp2_with fail
            refine (Error_is 3 _ (HG.out.ext e13)).mono ?_
            rintro _ w14 ⟨rfl, hb14⟩
            have e14 := e13.trans hb14
            go_wp2_with fail
            refine (Tiles_same A13 none 0 c13 0 [] _ (R13.ext hb14) (Rd.nil _ _ _ _) rfl (by omega)).mono ?_
            rintro _ w15 ⟨rfl, hb15⟩
            have e15 := e14.trans hb15
            go_wp2_with fail
            go_ret
            exact ⟨rfl, e15⟩
      obtain rfl : bk = 0 := HBK.out.trans (if_neg (not_not_intro hmT))
      have hbv2 := HBV.out.trans (if_pos hmT)
      have HBV2 := Lib.hid hbv2
      have HMT := Lib.hid hmT
      have hTm : T.length = m := hmT.symm
      rw [hTm] at hTw hT7 hT204 HRw2 HR12 ⊢
      clear hmT hbv2 HBK HBV hTm hj hc
      go_wp2_with fail
      go_loopw [21, 22] (fun v x wr => ∃ j : Nat, x = .int .i64 j ∧ j ≤ m ∧ Ext w12 wr ∧ Hid (OwnT w12 wr v (badJ T ys (T.map (tlS xs)) j))) (fun _ x _ => m - (intOf x).toNat)
      case atStart => exact ⟨0, rfl, Nat.zero_le _, Ext.refl _, own_nil _ _ _ _⟩
      case round =>
        obtain ⟨j, rfl, hj, hbw, hown⟩ := hrel
        by_cases hc : j < m
        · have hgt := List.getElem?_eq_getElem (l := T) (i := j) (by rw [← HMT.out]; exact hc)
          have hgy := List.getElem?_eq_getElem (l := ys) (i := j) (by rw [HYL.out]; exact hc)
          generalize T[j]'(by rw [← HMT.out]; exact hc) = t at *
          generalize ys[j]'(by rw [HYL.out]; exact hc) = y at *
          have hgr : (T.map (tlS xs))[j]? = some (tlS xs t) := by rw [List.getElem?_map, hgt]; rfl
          obtain ⟨Ay, cy, gy, hcy, Ry⟩ := HL'.out.2 j y hgy
          obtain ⟨Ar, cr, gr, hcr, Rr⟩ := HLw2.out.2 j _ hgr
          have e0r : Ext w wr := HE12.out.trans hbw
          obtain ⟨ad, rfl, hb, d0, d1, d2⟩ := (HR12.out.ext hbw).getT hgt
          obtain ⟨ady, rfl, hby, cy0⟩ := (HR'.out.ext e0r).at_ gy
          obtain ⟨adr, rfl, hbr, cr0⟩ := (HRw2.out.ext hbw).at_ gr
          have HJ1 : Hid (y = tlS xs t → badJ T ys (T.map (tlS xs)) (j + 1) = badJ T ys (T.map (tlS xs)) j) := Lib.hid fun e => by
            rw [badJ, if_pos (by rw [hgy, hgr, e])]
          have HJ2 : Hid (y ≠ tlS xs t → badJ T ys (T.map (tlS xs)) (j + 1) = badJ T ys (T.map (tlS xs)) j ++ [t]) := Lib.hid fun e => by
            rw [badJ, if_neg (by rw [hgy, hgr]; intro h; injection h with h; exact e h), hgt]; rfl
          have HEQ := Lib.hid fun W (e : Ext wr W) => Ints_any Ay Ar y.length (tlS xs t).length cy cr y (tlS xs t) W (Ry.ext (e0r.trans e)) (Rr.ext (hbw.trans e)) hcy hcr
          have hbl := badJ_len T ys (T.map (tlS xs)) j
          obtain ⟨qb, hqb⟩ : ∃ b, sameB y (tlS xs t) = b := ⟨_, rfl⟩
          have HQB := Lib.hid hqb
          rw [hqb] at HEQ
          clear hgt hgy hgr gy gr Ry Rr hqb
          obtain ⟨t0, t1, t2⟩ := t
          generalize tlS xs ⟨t0, t1, t2⟩ = r at *
          generalize badJ T ys (T.map (tlS xs)) j = L at *
          obtain ⟨L', hL2⟩ : ∃ x, badJ T ys (T.map (tlS xs)) (j + 1) = x := ⟨_, rfl⟩
          rw [hL2] at HJ1 HJ2
          have HL2 := Lib.hid hL2
          clear hL2
          simp only at d0 d1 d2
          have hjm : (j : Int) < (m : Int) := by omega
          have fy := WE.row cy0 (by rw [blk_add]; exact hby)
          have fr := WE.row cr0 (by rw [blk_add]; exact hbr)
          have hbT : (ad.add (j * 3)).block < wr.heap.size := by rw [blk_add]; exact hb
          clear cy0 cr0
          go_upto_region 31 with (fail)
          (refine wp_region_ext (w0 := wr) (by kernel_rfl) (by kernel_rfl) (by (repeat (with_reducible first | exact Ext.refl _ | assumption | refine Ext.drew ?_ | refine Ext.drewN ?_ _ | refine Ext.alloc ?_ _ | refine Ext.trans ?_ (by with_reducible assumption)))) ?_; (repeat (go_big_quiet_step ((go_at_call 30; exact quietE (HEQ.out _ (WE.h _)))))); refine wpQuiet_nil ?_)
          intro w13 hb13
          clear fy fr
          have e13 : Ext w12 w13 := hbw.trans hb13
          have z0 := (hb13.cell hbT).trans d0
          have z1 := (hb13.cell (p := ⟨(ad.add (j * 3)).block, (ad.add (j * 3)).off + 1, none⟩) hbT).trans d1
          have z2 := (hb13.cell (p := ⟨(ad.add (j * 3)).block, (ad.add (j * 3)).off + 2, none⟩) hbT).trans d2
          have hbT' : ad.block < w13.heap.size := hb13.lt hb
          have hs13 := e13.size
          have HOW := Lib.hid (own_ext hown.out hb13)
          clear d0 d1 d2 hown
          cases qb with
          | true =>
            have HJ := Lib.hid (HJ1.out (sameB_iff.1 HQB.out))
            clear HJ1 HJ2 HQB
            go_wp2_with fail
            go_roundw
            case rel => exact ⟨j + 1, by go_num, by omega, e13, Lib.hid (by rw [HL2.out, HJ.out]; exact HOW.out)⟩
            case measure => simp [intOf]; omega
          | false =>
            have HJ := Lib.hid (HJ2.out (fun e => by have h := HQB.out; rw [sameB_yes e] at h; cases h))
            clear HJ1 HJ2 HQB
            go_wp2_with (at_builtin; refine wpl_app (by rfl) _ _ _ (by rfl) w12.heap.size 54 j0 _ 3 24 Tryz.underlying50 hj0 hy0 hy1 hy2 rfl (by omega) u21 _ _ (by rfl) (own_ext HOW.out ((Ext.refl _).alloc _)) w13.heap.size 1 (Tl.cells ⟨t0, t1, t2⟩) rfl (by rfl) (news_new w13 _ _ _ rfl) (oneT _) (by omega) (by omega) (by simp; omega) ?_; intro g cap w14 own14 hext14)
            go_roundw
            case rel => exact ⟨j + 1, by go_num, by omega, hext14 _ (Nat.le_refl _) (by (repeat (with_reducible first | exact Ext.refl _ | assumption | refine Ext.drew ?_ | refine Ext.drewN ?_ _ | refine Ext.alloc ?_ _ | refine Ext.trans ?_ (by with_reducible assumption)))), OwnT.mk own14 (by rw [HL2.out, HJ.out]; simp) (by rw [HL2.out, HJ.out]; simp [List.flatMap_append])⟩
            case measure => simp [intOf]; omega
        · obtain rfl : j = m := by omega
          have hown2 := hown.out
          rw [← HBV2.out] at hown2
          have hbl : bv.length ≤ 204 := by have := badJ_len T ys (T.map (tlS xs)) j; rw [← HBV2.out] at this; omega
          obtain ⟨Ab, cb, hvb, hcb, Rb, -⟩ := own_rd hown2
          have HRb := Lib.hid Rb
          have e12 := HE12.out.trans hbw
          subst hvb
          clear hown hown2 Rb
          go_wp2_with fail
          refine (HB.out _ e12).mono ?_
          rw [errR_0]
          rintro _ w13 ⟨⟨v13, rfl, own13⟩, hb13⟩
          obtain ⟨A13, c13, rfl, hc13, R13, -⟩ := own_rd own13
          have e13 := e12.trans hb13
          go_wp2_with fail
          refine (Error_is 0 _ (HG.out.ext e13)).mono ?_
          rintro _ w14 ⟨rfl, hb14⟩
          have e14 := e13.trans hb14
          go_wp2_with fail
          refine (Tiles_same A13 Ab bv.length c13 cb bv _ (R13.ext hb14) ((HRb.out.ext hb13).ext hb14) rfl (by omega)).mono ?_
          rintro _ w15 ⟨rfl, hb15⟩
          have e15 := e14.trans hb15
          go_wp2_with fail
          go_ret
          exact ⟨rfl, e15⟩

theorem walk (A : Option Addr) (n c : Nat) (es : List Ent) (h : Hd) (key : Int) (A' : Option Addr) (m c' : Nat) (rs : List (RowG Int)) (w : World)
    (hl : es.length = n) (hm : c ≤ maxLen) (hr : Rd w 2 A n c (es.flatMap Ent.cells)) (ge : ∀ y ∈ es, y.good) (gh : h.good) (gk : igood key) (hl2 : rs.length = m) (hm' : c' ≤ maxLen) (hr' : Rd w 1 A' m c' (rs.flatMap RowG.cells)) (gr : ∀ r ∈ rs, r.good w 1 icells igood)
    (hD : DebG w) (hP : PowG w) (hg : ErrG w) :
    Calls Tryz.prog 4 #[.slice A n c, h.val, .int .i64 key, .slice A' m c'] w fun e w' => e = .returned (.bool true) ∧ Ext w w' := by
  by_cases hk : entsOk es
  · exact walk_yes A n c es h key A' m c' _ _ w hm hr hm' hr' (LLd.of_rows gr) hD hP hg hk
  · exact walk_no A n c es h key A' m c' _ _ w hm hr hm' hr' (LLd.of_rows gr) hD hP hg (entsErr_bad hk)
end Go.Proofs.YtelcabjhbgkfmaaGreatDoor.auditTells
