/- AuditFinds: the walk. -/
import Derived.Test.YtelcabjhbgkfmaaDoorAuditW
import Derived.Test.YtelcabjhbgkfmaaDoorSgn
import Derived.Test.YtelcabjhbgkfmaaDoorForkP
import Derived.Test.YtelcabjhbgkfmaaDoorTot2
import Derived.Deep.DeepCutAuto
namespace Go.Proofs.YtelcabjhbgkfmaaDoor.auditFinds
open Go.RowKit Go.WideShapes
set_option linter.unusedVariables false
attribute [local go_sem ↓] Go.wp_at_zero Go.wp_at_succ

theorem ents_of_zero {es : List Ent} (h : entsErr es = 0) : entsOk es := Classical.byContradiction fun hk => entsErr_bad hk h
theorem tiles_row {es : List Ent} (h0 : entsErr es = 0) {i : Nat} {r : List Int} (h : (tilesV es)[i]? = some r) : ∃ t, (tilesT es)[i]? = some t ∧ t.wide = (r.length : Int) := by
  rw [tilesV_map, List.getElem?_map] at h
  cases ht : (tilesT es)[i]? with
  | none => rw [ht] at h; cases h
  | some t =>
    rw [ht] at h
    obtain rfl : tlS (es.map Ent.leaf) t = r := by simpa using h
    refine ⟨t, rfl, ?_⟩
    have hm := List.mem_of_getElem? ht
    unfold tilesT at hm
    rw [if_pos h0] at hm
    obtain ⟨k, j, m, _, rfl, _⟩ := allT_mem _ _ _ hm
    unfold tlS
    rw [sumsT_len]
    simp
theorem LLd.one {w : World} {vs : List Value} {xss : List (List Int)} (h : LLd w vs xss) : ∀ u ∈ vs, u.oneCell' = true := by
  intro u hu
  obtain ⟨i, hi, rfl⟩ := List.getElem_of_mem hu
  obtain ⟨A, c, h1, _, _⟩ := h.2 i (xss[i]'(by rw [← h.1]; exact hi)) (List.getElem?_eq_getElem _)
  rw [List.getElem?_eq_getElem hi] at h1
  injection h1 with h1
  rw [h1]; rfl
theorem Rd.set1 {w : World} {g n c i : Nat} {xs : List Value} (h : Rd w 1 (some ⟨g, 0, none⟩) n c xs) (hi : i < n) (v : Value) : Rd (w.setCell ⟨g, i, none⟩ v) 1 (some ⟨g, 0, none⟩) n c (xs.set i v) := by
  have hl := h.1
  refine ⟨by rw [List.length_set, hl], h.2.1, fun hn => ?_⟩
  obtain ⟨ad, e, hb, hc⟩ := h.2.2 hn
  obtain rfl : (⟨g, 0, none⟩ : Addr) = ad := by injection e
  refine ⟨_, rfl, Nat.lt_of_lt_of_le hb (gb_set w g i v).size, fun j u hu => ?_⟩
  rw [add_mk, Nat.zero_add]
  by_cases e2 : i = j
  · subst e2
    rw [List.getElem?_set_self (by omega)] at hu
    injection hu with hu
    subst hu
    have h2 := hc i _ (List.getElem?_eq_getElem (by omega))
    rw [add_mk, Nat.zero_add] at h2
    exact World.cell?_setCell_same' _ _ _ (by rw [h2]; rfl)
  · rw [List.getElem?_set_ne e2] at hu
    have h2 := hc j u hu
    rw [add_mk, Nat.zero_add] at h2
    refine Eq.trans ?_ h2
    apply World.cell?_setCell_other
    intro e3
    injection e3 with _ e3
    exact e2 e3
theorem own_frozen {w : World} {b n size g c : Nat} {e : TypeId} {xs : List Value} (h : w.ownsRow b e size (.slice (some ⟨g, 0, none⟩) n c) n xs) (i : Nat) : w.frozen? ⟨g, i, none⟩ = false := by
  rcases h.2 with ⟨h1, _⟩ | ⟨g1, cap, cur, hv, _, hh, _⟩
  · cases h1
  · obtain rfl : g = g1 := by injection hv with a _ _; injection a with a; injection a
    exact Bk.frozen (t := e) (cs := cur) hh i
def twoE : List Ent := [⟨0, ⟨#[97]⟩⟩, ⟨0, ⟨#[98]⟩⟩]
theorem two_ok : entsOk twoE := ⟨by decide, fun e he => by
  simp [twoE] at he
  rcases he with rfl | rfl
  · exact ⟨by decide, by decide, by decide⟩
  · exact ⟨by decide, by decide, by decide⟩⟩
theorem two_rows : ∃ r, tilesV twoE = [r] ∧ r.length = 2 := by
  have ht : tilesT twoE = [⟨0, 0, 2⟩] := by
    unfold tilesT
    rw [if_pos (entsErr_ok two_ok)]
    show allT 2 4 = _
    simp [allT, tilesAt, tileAt, List.range_succ]
    rfl
  rw [tilesV_map, ht]
  exact ⟨_, rfl, by unfold tlS; rw [sumsT_len]; rfl⟩
theorem whole_ok {es : List Ent} {key : Int} (h0 : entsErr es = 0) (hk : keyI key = true) : sgnK (lgB es.length (ofL (es.map Ent.leaf)) 0) key = 0 ∧ whlK es (sgnH (lgB es.length (ofL (es.map Ent.leaf)) 0) key) key = 0 := by
  have he := ents_of_zero h0
  obtain ⟨a1, a2, a3, a4⟩ := lg_ok (n := es.length) (r := ofL (es.map Ent.leaf)) (t := 0) (key := key) he.1 (vld_root (leafs_of_ents he)) ⟨by decide, by decide⟩ hk
  refine ⟨a1, ?_⟩
  unfold whlK
  rw [if_neg (not_not_intro a2), if_neg (not_not_intro h0), a3, a4, if_neg (not_not_intro rfl), if_neg (not_not_intro rfl)]

set_option maxRecDepth 100000 in
set_option maxHeartbeats 4000000 in
theorem walk (A : Option Addr) (n c : Nat) (es : List Ent) (key at_ in_ to_ : Int) (w : World) (hl : es.length = n) (hm : c ≤ maxLen) (hr : Rd w 2 A n c (es.flatMap Ent.cells)) (ge : ∀ y ∈ es, y.good)
    (g1 : igood key) (g2 : igood at_) (g3 : igood in_) (g4 : igood to_) (hD : DebG w) (hP : PowG w) :
    Calls Tryd.prog 6 #[.slice A n c, .int .i64 key, .int .i64 at_, .int .i64 in_, .int .i64 to_] w fun e w' => e = .returned (.bool true) ∧ Ext w w' := by
  obtain ⟨hE, hN, hG0⟩ := errR_rules
  have hnc := hr.2.1
  have hcs : c ≤ 9223372036854775807 := by unfold maxLen at hm; omega
  have HR := Lib.hid hr
  have HX := Lib.hid hl
  have HD := Lib.hid hD
  have HP := Lib.hid hP
  obtain ⟨r0, hr0, hr02⟩ := two_rows
  have HK2 := Lib.hid (entsErr_ok two_ok)
  have HR0 := Lib.hid hr0
  have HR02 := Lib.hid hr02
  have rP : Rd (w.alloc (.cells #[.int .i64 0, .string ⟨#[97]⟩, .int .i64 0, .string ⟨#[98]⟩] 52)) 2 (some ⟨w.heap.size, 0, none⟩) 2 2 (twoE.flatMap Ent.cells) :=
    ⟨rfl, Nat.le_refl _, fun _ => ⟨_, rfl, by simp, fun j u hu => news_new w 52 [.int .i64 0, .string ⟨#[97]⟩, .int .i64 0, .string ⟨#[98]⟩] _ rfl j u hu⟩⟩
  have e1 : Ext w (w.alloc (.cells #[.int .i64 0, .string ⟨#[97]⟩, .int .i64 0, .string ⟨#[98]⟩] 52)) := (Ext.refl _).alloc _
  have HRP := Lib.hid rP
  have HE1 := Lib.hid e1
  clear rP e1 hr0 hr02 hl hr hD hP ge g1 g2 g3 g4
  go_enter Tryd.func6, Tryd.ntmps6
  go_wp2_with fail
  generalize w.alloc (.cells #[.int .i64 0, .string ⟨#[97]⟩, .int .i64 0, .string ⟨#[98]⟩] 52) = W1 at *
  refine (ATiles_any _ 2 2 twoE _ HRP.out (by simp only [maxLen]; omega)).mono ?_
  rw [HK2.out, errR_0, HR0.out]
  rintro _ w2 ⟨⟨v2, rfl, own2⟩, hb2⟩
  obtain ⟨A2, c2, vs2, rfl, hc2, R2, L2⟩ := own2.rd
  obtain ⟨A3, c3, hg3, -, -⟩ := L2.2 0 r0 rfl
  rw [HR02.out] at hg3
  obtain ⟨ad2, rfl, hb2', c0⟩ := R2.at_ hg3
  rw [add_zero'] at c0
  rw [show ([r0] : List (List Int)).length = 1 from rfl] at R2 ⊢
  have hle : 1 ≤ c2 := R2.2.1
  have HE2 := Lib.hid (HE1.out.trans hb2)
  clear own2 L2 hg3 HE1 hb2 HRP R2
  unfold maxLen at hc2
  go_wp2_with fail
  have HAT := Lib.hid (ATiles_any A n c es w2 (HR.out.ext HE2.out) hm)
  obtain ⟨ek, hek⟩ : ∃ v, entsErr es = v := ⟨_, rfl⟩
  have HEK := Lib.hid hek
  rw [hek] at HAT
  clear hek c0 hle hc2 hb2'
  refine HAT.out.mono ?_
  rintro _ w3 ⟨⟨v3, rfl, own3⟩, hb3⟩
  have HE3 := Lib.hid (HE2.out.trans hb3)
  clear HAT HE2 hb3
  by_cases h0 : ek = 0
  case neg =>
    have hok := isOk_no h0
    clear h0
    go_wp2_with fail
    go_ret
    exact ⟨rfl, HE3.out⟩
  subst h0
  rw [errR_0]
  have HOK := Lib.hid (ents_of_zero HEK.out)
  have hn200 : n ≤ 200 := by have := HOK.out.1; rw [HX.out] at this; exact this
  obtain ⟨A3, c3, vs3, rfl, hc3, R3, L3⟩ := own3.rd
  have HTL := Lib.hid (tilesV_len es)
  have htl := tilesT_len es
  obtain ⟨T, hT⟩ : ∃ v, tilesT es = v := ⟨_, rfl⟩
  obtain ⟨rs, hrs⟩ : ∃ v, tilesV es = v := ⟨_, rfl⟩
  have HTE := Lib.hid hT
  have HRS := Lib.hid hrs
  rw [hT, hrs] at HTL
  rw [hT] at htl
  rw [hrs] at R3 L3 ⊢
  obtain ⟨q, hq⟩ : ∃ q, rs.length = q := ⟨_, rfl⟩
  have HQ := Lib.hid hq
  rw [hq] at R3 ⊢
  have hq204 : q ≤ 204 := by rw [← hq, HTL.out]; exact htl
  have hqc : q ≤ c3 := R3.2.1
  have HR3 := Lib.hid R3
  have HL3 := Lib.hid L3
  have hc3s : c3 ≤ 9223372036854775807 := by unfold maxLen at hc3; omega
  have hB0 : badK es q = 0 := by unfold badK; rw [if_neg (not_not_intro HEK.out), if_neg (by rw [HTE.out, ← HTL.out, HQ.out]; exact not_not_intro rfl)]
  have hB1 : badV es rs = [] := by unfold badV; rw [HQ.out, if_pos hB0, HRS.out, badJ_same]
  have HB0 := Lib.hid hB0
  have HB1 := Lib.hid hB1
  clear hT hrs hq htl own3 R3 L3 hB0 hB1
  go_wp2_with fail
  refine (ABad_any A n c es A3 q c3 vs3 rs _ (HR.out.ext HE3.out) hm HR3.out hc3 HL3.out).mono ?_
  rw [HB0.out, HB1.out, errR_0]
  rintro _ w4 ⟨⟨v4, rfl, own4⟩, hb4⟩
  obtain ⟨A4, c4, rfl, hc4, R4, _⟩ := own_rd own4
  rw [show ([] : List Tl).length = 0 from rfl] at R4 ⊢
  have HE4 := Lib.hid (HE3.out.trans hb4)
  have h34 := hb4
  clear own4 R4 hb4 HB1
  go_wp2_with fail
  have hLF := Leafs_ok A n c es w4 (HR.out.ext HE4.out) hm HOK.out
  rw [HX.out] at hLF
  have HLF := Lib.hid hLF
  clear hLF
  obtain ⟨xs, hxs⟩ : ∃ xs, es.map Ent.leaf = xs := ⟨_, rfl⟩
  have hlo := leafs_of_ents HOK.out
  rw [hxs] at HLF hlo
  have HXS := Lib.hid hxs
  have HLO := Lib.hid hlo
  clear hxs hlo
  refine HLF.out.mono ?_
  rintro _ w5 ⟨⟨v5, rfl, own5⟩, hb5⟩
  obtain ⟨A5, c5, rfl, hc5, R5, _⟩ := own_rd own5
  have HR5 := Lib.hid R5
  have h35 := h34.trans hb5
  clear own5 R5 hb5 HLF h34
  have hRT := Root_ok A5 n c5 xs w5 HR5.out hc5 HLO.out
  obtain ⟨rt, hrt⟩ : ∃ v, ofL xs = v := ⟨_, rfl⟩
  have HRT := Lib.hid hrt
  rw [hrt] at hRT
  have HRO := Lib.hid hRT
  clear hRT hrt
  go_wp2_with fail
  refine HRO.out.mono ?_
  rintro _ w6 ⟨rfl, hb6⟩
  have HE36 := Lib.hid (h35.trans hb6)
  have HE6 := Lib.hid (HE3.out.trans HE36.out)
  clear HRO hb6 HR5 HE4 h35
  obtain ⟨kb, hkb⟩ : ∃ kb, keyI key = kb := ⟨_, rfl⟩
  have HKB := Lib.hid hkb
  clear hkb
  go_upto_region 14 with (fail)
  go_cut [88] (fun v wc => v = .bool kb ∧ w6 = wc)
  case first =>
    as_aux_lemma =>
    cases kb with
    | true =>
      obtain ⟨k1, k2⟩ := keyI_true HKB.out
      go_wp2_with fail
      go_meet
      exact ⟨rfl, rfl⟩
    | false =>
      have hk := keyI_false HKB.out
      by_cases h1 : 1 ≤ key
      · have h2 : ¬ key ≤ 1000000 := fun h => hk ⟨h1, h⟩
        clear hk
        go_wp2_with fail
        go_meet
        exact ⟨rfl, rfl⟩
      · clear hk
        go_wp2_with fail
        go_meet
        exact ⟨rfl, rfl⟩
  case rest =>
  as_aux_lemma =>
  obtain ⟨rfl, rfl⟩ := hcut
  go_upto_if 88 with (fail)
  go_cut [21, 22] (fun _ _ wc => Ext w6 wc)
  case first =>
    as_aux_lemma =>
    cases kb with
    | true =>
      obtain ⟨s1, s2⟩ := whole_ok HEK.out HKB.out
      rw [HX.out, HXS.out, HRT.out] at s1 s2
      have HSG : Hid (∀ W, Ext w W → Calls Tryd.prog 24 #[.agg #[.int .i64 n, .int .i64 rt, .int .i64 0, .int .i64 0], .int .i64 key] W fun e w' => e = .returned (.tuple #[(sgnH (lgB n rt 0) key).val, .nilIface]) ∧ Ext W w') := Lib.hid fun W e => by
        have := Sign_any (lgB n rt 0) key W (HD.out.ext e) (HP.out.ext e)
        rw [s1] at this; exact this
      have HWH : Hid (∀ W, Ext w W → Calls Tryd.prog 32 #[.slice A n c, (sgnH (lgB n rt 0) key).val, .int .i64 key] W fun e w' => e = .returned .nilIface ∧ Ext W w') := Lib.hid fun W e => by
        have := AWhole_any A n c es (sgnH (lgB n rt 0) key) key W (HD.out.ext e) (HP.out.ext e) (HR.out.ext e) hm
        rw [s2] at this; exact this
      obtain ⟨z, hz⟩ : ∃ z, sgnH (lgB n rt 0) key = z := ⟨_, rfl⟩
      rw [hz] at HSG HWH
      clear s1 s2 hz
      obtain ⟨z0, z1, z2, z3⟩ := z
      simp only [Hd.val] at HSG HWH
      go_wp2_with fail
      refine (HSG.out _ HE6.out).mono ?_
      rintro _ w7 ⟨rfl, hb7⟩
      have B7 := Bk.at_ w7 40 #[.int .i64 z0, .int .i64 z1, .int .i64 z2, .int .i64 z3] w7.heap.size rfl
      have e7 : Ext w6 (w7.alloc (.cells #[.int .i64 z0, .int .i64 z1, .int .i64 z2, .int .i64 z3] 40)) := hb7.alloc _
      have y0 := B7.cell 0
      have y1 := B7.cell 1
      have y2 := B7.cell 2
      have y3 := B7.cell 3
      have HE7 := Lib.hid e7
      clear hb7 e7 B7
      go_upto_region 16 with (fail)
      generalize w7.alloc (.cells #[.int .i64 z0, .int .i64 z1, .int .i64 z2, .int .i64 z3] 40) = W7 at *
      generalize w7.heap.size = g7 at *
      go_wp2_with fail
      refine (HWH.out _ (HE6.out.trans HE7.out)).mono ?_
      rintro _ w8 ⟨rfl, hb8⟩
      have e8 := HE7.out.trans hb8
      go_wp2_with fail
      go_meet
      exact e8
    | false =>
      go_wp2_with fail
      go_meet
      exact Ext.refl _
  case rest =>
  as_aux_lemma =>
  have HE37 := Lib.hid (HE36.out.trans hcut)
  have HE7 := Lib.hid (HE6.out.trans hcut)
  obtain ⟨w7, rfl⟩ : ∃ W, W = wc := ⟨_, rfl⟩
  clear hcut HE36 HE6 HKB HRT
  by_cases ha : 0 ≤ at_ ∧ at_ < q
  case neg =>
    have h' : at_ < 0 ∨ (0 ≤ at_ ∧ (q : Int) ≤ at_) := by omega
    clear ha
    rcases h' with h | ⟨h, h2⟩
    all_goals
      go_wp2_with fail
      go_ret
      exact ⟨rfl, HE7.out⟩
  obtain ⟨ha0, haq⟩ := ha
  obtain ⟨i, rfl⟩ := Int.eq_ofNat_of_zero_le ha0
  have hiq : i < q := by omega
  have hgr := List.getElem?_eq_getElem (l := rs) (i := i) (by rw [HQ.out]; exact hiq)
  generalize rs[i]'(by rw [HQ.out]; exact hiq) = r at *
  obtain ⟨Ar, cr, hgv, hcr, Rr⟩ := HL3.out.2 i r hgr
  obtain ⟨ad3, rfl, hb3a, c3i⟩ := (HR3.out.ext HE37.out).at_ hgv
  obtain ⟨t, hgt, hwt⟩ := tiles_row HEK.out (by rw [HRS.out]; exact hgr)
  rw [HTE.out] at hgt
  have HGR := Lib.hid hgr
  have HGT := Lib.hid hgt
  have HRr := Lib.hid (Rr.ext HE37.out)
  have hrc := Rr.2.1
  have hcrs : cr ≤ 9223372036854775807 := by unfold maxLen at hcr; omega
  obtain ⟨rl, hrl⟩ : ∃ q, r.length = q := ⟨_, rfl⟩
  rw [hrl] at c3i HRr hrc hwt
  have HRL := Lib.hid hrl
  have HWT := Lib.hid hwt
  rw [hrl] at hgv
  have HGV := Lib.hid hgv
  clear hgr hgt hgv hrl hwt Rr
  by_cases hi : 0 ≤ in_ ∧ in_ < rl
  case neg =>
    have h' : in_ < 0 ∨ (0 ≤ in_ ∧ (rl : Int) ≤ in_) := by omega
    clear hi
    rcases h' with h | ⟨h, h2⟩
    all_goals
      go_wp2_with fail
      go_ret
      exact ⟨rfl, HE7.out⟩
  obtain ⟨hi0, hir⟩ := hi
  obtain ⟨j, rfl⟩ := Int.eq_ofNat_of_zero_le hi0
  have hjr : j < rl := by omega
  have hgz := List.getElem?_eq_getElem (l := r) (i := j) (by rw [HRL.out]; exact hjr)
  generalize r[j]'(by rw [HRL.out]; exact hjr) = z at *
  obtain ⟨adr, rfl, hbr, cz⟩ := HRr.out.getI hgz
  have HGZ := Lib.hid hgz
  clear hgz
  by_cases hz : z = to_
  · subst hz
    go_wp2_with fail
    go_ret
    exact ⟨rfl, HE7.out⟩
  have HZ := Lib.hid hz
  have q1 : (z == to_) = false := by simp [hz]
  have hr1 : rl ≤ 4 := by
    obtain ⟨k, p, m, _, ht, h1, h4, _⟩ := allT_mem es.length 4 t (by
      have := List.mem_of_getElem? HGT.out
      rw [← HTE.out] at this
      unfold tilesT at this
      rw [if_pos HEK.out] at this
      exact this)
    have := HWT.out
    rw [ht] at this
    simp only at this
    omega
  obtain ⟨i0, hi00, hz0, hz1, hz2⟩ := info_parts info_ints
  obtain ⟨j0, hj0, hy0, hy1, hy2⟩ := info_parts info_int'
  have hvl : vs3.length = q * 1 := HR3.out.1
  have hcl : ∀ (k : Nat) (u : Value), vs3[k]? = some u → w7.cell? (ad3.add k) = some u := fun k u hu => by
    obtain ⟨ad', e, _, hh⟩ := (HR3.out.ext HE37.out).2.2 (by omega)
    obtain rfl : ad3 = ad' := by injection e
    exact hh k u hu
  have HVL := Lib.hid hvl
  have HCL := Lib.hid hcl
  have HON := Lib.hid (LLd.one HL3.out)
  clear hvl hcl hz
  go_upto_region 22 with (at_builtin; refine wpl_apps (by rfl) _ _ _ (by rfl) w7.heap.size 53 i0 _ 1 24 Tryd.underlying48 hi00 hz0 hz1 hz2 rfl (by omega) (.slice none 0 0) 0 [] (by rfl) (own_nil _ _ _ _) ad3 q c3 vs3 (by rfl) HVL.out HCL.out HON.out (by omega) (by omega) (by omega) (Nat.le_refl _) ?_; intro g8 cap8 w8 own8 hg8 hor8 hlt8)
  rw [Nat.zero_add, List.nil_append] at own8
  have e78 : Ext w7 w8 := gb_none hg8
  have hge8 : w7.heap.size ≤ g8 := own_block own8 g8 rfl
  have hc8 : (w8.cell? (ad3.add i)) = some (.slice (some adr) rl cr) := (e78.cell (by rw [blk_add]; exact hb3a)).trans c3i
  obtain ⟨A8', c8', hv8, hc8m, R8, -⟩ := own_rd own8
  obtain ⟨rfl, rfl⟩ : (some ⟨g8, 0, none⟩ : Option Addr) = A8' ∧ cap8 = c8' := by injection hv8 with a _ b; exact ⟨a, b⟩
  have HO8 := Lib.hid own8
  have HR8 := Lib.hid R8
  have HG8 := Lib.hid hge8
  have HE78 := Lib.hid e78
  have hrcl : ∀ (k : Nat) (u : Value), (r.map (Value.int .i64))[k]? = some u → w8.cell? (adr.add k) = some u := fun k u hu => by
    obtain ⟨ad', e, _, hh⟩ := (HRr.out.ext e78).2.2 (by omega)
    obtain rfl : adr = ad' := by injection e
    exact hh k u hu
  have HRC := Lib.hid hrcl
  have HRN : Hid ((r.map (Value.int .i64)).length = rl * 1) := by rw [List.length_map, HRL.out, Nat.mul_one]; exact rfl
  have HON2 : Hid (∀ u ∈ r.map (Value.int .i64), u.oneCell' = true) := Lib.hid fun u hu => by
    obtain ⟨x, _, rfl⟩ := List.mem_map.1 hu; rfl
  clear own8 hv8 R8 hg8 hor8 hge8 e78 hrcl c3i cz
  go_upto_region 24 with (at_builtin; refine wpl_apps (by rfl) _ _ _ (by rfl) w8.heap.size 3 j0 _ 1 8 Tryd.underlying53 hj0 hy0 hy1 hy2 rfl (by omega) (.slice none 0 0) 0 [] (by rfl) (own_nil _ _ _ _) adr rl cr (r.map (Value.int .i64)) (by rfl) HRN.out HRC.out HON2.out (by omega) (by omega) (by omega) (Nat.le_refl _) ?_; intro g9 cap9 w9 own9 hg9 hor9 hlt9)
  rw [Nat.zero_add, List.nil_append] at own9
  have e89 : Ext w8 w9 := gb_none hg9
  have hge9 : w8.heap.size ≤ g9 := own_block own9 g9 rfl
  have hne : g8 ≠ g9 := by omega
  obtain ⟨A9', c9', hv9, hc9m, R9, -⟩ := own_rd own9
  obtain ⟨rfl, rfl⟩ : (some ⟨g9, 0, none⟩ : Option Addr) = A9' ∧ cap9 = c9' := by injection hv9 with a _ b; exact ⟨a, b⟩
  have f9 := own_frozen own9 j
  have hrc9 : rl ≤ cap9 := R9.2.1
  have u9 : w9.cell? ⟨g9, j, none⟩ = some (.int .i64 z) := by
    obtain ⟨ad', e, _, hh⟩ := R9.getI HGZ.out
    obtain rfl : (⟨g9, 0, none⟩ : Addr) = ad' := by injection e
    rwa [add_mk, Nat.zero_add] at hh
  have R10 := Rd.set1 R9 hjr (.int .i64 to_)
  rw [show (r.map (Value.int .i64)).set j (.int .i64 to_) = (r.set j to_).map (Value.int .i64) by rw [List.map_set]] at R10
  have O8 := (own_ext HO8.out e89).kept (gb_set w9 g9 j (.int .i64 to_)) (.inr (by show some g8 ≠ some g9; simp; exact hne))
  have R8' := (HR8.out.ext e89).kept (gb_set w9 g9 j (.int .i64 to_)) (fun _ ad e => by injection e with e; subst e; simp; exact hne.symm)
  have e710 : Ext w7 (w9.setCell ⟨g9, j, none⟩ (.int .i64 to_)) := (HE78.out.trans e89).setCell (by have := HE78.out.size; show _ ≤ g9; omega) _
  go_upto_region 25 with (fail)
  generalize w9.setCell ⟨g9, j, none⟩ (.int .i64 to_) = W10 at *
  have f10 := own_frozen O8 i
  have u10 : W10.cell? ⟨g8, i, none⟩ = some (.slice (some adr) rl cr) := by
    obtain ⟨ad', e, _, hh⟩ := R8'.2.2 (by omega)
    obtain rfl : (⟨g8, 0, none⟩ : Addr) = ad' := by injection e
    have h1 := hh i _ HGV.out
    rwa [add_mk, Nat.zero_add] at h1
  have R11 := Rd.set1 R8' hiq (.slice (some ⟨g9, 0, none⟩) rl cap9)
  have R10' := R10.kept (gb_set W10 g8 i (.slice (some ⟨g9, 0, none⟩) rl cap9)) (fun _ ad e => by injection e with e; subst e; simp; exact hne)
  have e711 : Ext w7 (W10.setCell ⟨g8, i, none⟩ (.slice (some ⟨g9, 0, none⟩) rl cap9)) := e710.setCell HG8.out _
  have hq8 : q ≤ cap8 := HR8.out.2.1
  have hc8s : cap8 ≤ 9223372036854775807 := by unfold maxLen at hc8m; omega
  have hc9s : cap9 ≤ 9223372036854775807 := by unfold maxLen at hc9m; omega
  go_upto_region 26 with (fail)
  generalize W10.setCell ⟨g8, i, none⟩ (.slice (some ⟨g9, 0, none⟩) rl cap9) = W11 at *
  have HL11 : LLd W11 (vs3.set i (.slice (some ⟨g9, 0, none⟩) rl cap9)) (rs.set i (r.set j to_)) := by
    have hl2 : (r.set j to_).length = rl := by rw [List.length_set, HRL.out]
    have h2 := (HL3.out.ext (HE37.out.trans e711)).set (xs := r.set j to_) (A := some ⟨g9, 0, none⟩) (c := cap9) i hc9m (by rw [hl2]; exact R10')
    rw [hl2] at h2
    exact h2
  have hyl : (rs.set i (r.set j to_)).length = q := by rw [List.length_set, HQ.out]
  have hbv : badV es (rs.set i (r.set j to_)) = [t] := by
    unfold badV
    rw [hyl, if_pos HB0.out, HTE.out, HRS.out, badJ_set HGR.out ?_ HGT.out, ← HTL.out, HQ.out, if_pos hiq]
    intro e
    have h2 : (r.set j to_)[j]? = some to_ := List.getElem?_set_self (by rw [HRL.out]; exact hjr)
    rw [e, HGZ.out] at h2
    injection h2 with h2
    exact HZ.out h2
  have hbad := ABad_any A n c es (some ⟨g8, 0, none⟩) q cap8 _ _ W11 (HR.out.ext (HE7.out.trans e711)) hm R11 hc8m HL11
  rw [HB0.out, hbv, errR_0] at hbad
  have HBAD := Lib.hid hbad
  have HE11 := Lib.hid (HE7.out.trans e711)
  clear hbad hbv hyl HL11 R11 R10' R10 O8 R8' e710 e711
  go_wp2_with fail
  refine HBAD.out.mono ?_
  rintro _ w12 ⟨⟨v12, rfl, own12⟩, hb12⟩
  obtain ⟨A12, c12, rfl, hc12, R12, _⟩ := own_rd own12
  rw [show ([t] : List Tl).length = 1 from rfl] at R12 ⊢
  obtain ⟨ad12, rfl, hb12', d0, d1, d2⟩ := R12.getT (j := 0) (t := t) rfl
  have hl12 := R12.2.1
  rw [Nat.zero_mul, add_zero'] at d0 d1 d2
  rw [HWT.out] at d2
  have e12 := HE11.out.trans hb12
  clear own12 R12 HBAD hb12
  go_wp2_with fail
  go_ret
  exact ⟨rfl, e12⟩
end Go.Proofs.YtelcabjhbgkfmaaDoor.auditFinds
