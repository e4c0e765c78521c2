/- The references' answers: Answer. -/
import Derived.Test.YtnphbkjkeipmmaaGreatDoorJRunBegins29
import Derived.BigQuiet
namespace Go.Proofs.YtnphbkjkeipmmaaGreatDoor
open Go.RowKit Go.WideShapes
set_option linter.unusedVariables false
attribute [local go_sem ↓] Go.wp_at_zero Go.wp_at_succ

def AnsI (es : List Ent) (key now : Int) (s : ByteArray) (e : Ending) : Prop := e = .returned (.tuple #[.string (ansR es key now s).1, .int .i64 (ansR es key now s).2])
theorem AnsI.of {es : List Ent} {key now : Int} {s : ByteArray} {z : ByteArray × Int} (h : ansR es key now s = z) {e : Ending} (he : e = .returned (.tuple #[.string z.1, .int .i64 z.2])) : AnsI es key now s e := by unfold AnsI; rw [h]; exact he
theorem sumsV_zero (l : List Int) : sumsV l 0 = textsV l := if_neg (not_not_intro rfl)
theorem sumsV_ne (l : List Int) {k : Int} (h : k ≠ 0) : sumsV l k = ⟨#[]⟩ := if_pos h
theorem pm_ref {xs : List Int} {a b : Nat} (hk : leafsOk xs) (h1 : a < b) (h2 : b ≤ xs.length) : (sumsV (pmV xs a b) (pmK xs a b), pmK xs a b) = (textsV (wayL (xs.take b) a), 0) := by
  have h := pmK_ok (xs := xs) (i := (a : Int)) (m := (b : Int)) hk ⟨by omega, by omega, by omega⟩
  have h3 : pmV xs (a : Int) (b : Int) = wayL (xs.take b) a := by
    unfold pmV
    rw [if_pos h, Int.toNat_natCast, Int.toNat_natCast]
  rw [h3, h, sumsV_zero]
theorem pm_not {xs : List Int} {a b : Nat} (hk : leafsOk xs) (h : ¬ (a < b ∧ b ≤ xs.length)) : (sumsV (pmV xs a b) (pmK xs a b), pmK xs a b) = (⟨#[]⟩, 1) := by
  have h1 := pmK_range (xs := xs) (i := (a : Int)) (m := (b : Int)) hk (by omega)
  rw [h1, sumsV_ne _ (by decide)]
theorem gm_ref {xs : List Int} {a b : Nat} (hk : leafsOk xs) (h0 : 1 ≤ a) (h1 : a ≤ b) (h2 : b ≤ xs.length) : (sumsV (gmV xs a b) (gmK xs a b), gmK xs a b) = (textsV (growL (xs.take b) a true), 0) := by
  have h := gmK_ok (xs := xs) (o := (a : Int)) (n := (b : Int)) hk ⟨by omega, by omega, by omega⟩
  have h3 : gmV xs (a : Int) (b : Int) = growL (xs.take b) a true := by
    unfold gmV
    rw [if_pos h, Int.toNat_natCast, Int.toNat_natCast]
  rw [h3, h, sumsV_zero]
theorem gm_not {xs : List Int} {a b : Nat} (hk : leafsOk xs) (h : ¬ (1 ≤ a ∧ a ≤ b ∧ b ≤ xs.length)) : (sumsV (gmV xs a b) (gmK xs a b), gmK xs a b) = (⟨#[]⟩, 1) := by
  have h1 := gmK_range (xs := xs) (o := (a : Int)) (n := (b : Int)) hk (by omega)
  rw [h1, sumsV_ne _ (by decide)]
theorem wh_ref {xs : List Int} {a b : Nat} {t : Tl} (h : (allT xs.length 4).find? (fun t => decide (t.level = (a : Int) ∧ t.index = (b : Int))) = some t) : (sumsV (wholeV xs a b) (wholeK xs a b), wholeK xs a b) = (textsV (sumsT xs t.level.toNat t.index.toNat t.wide.toNat), 0) := by
  unfold wholeV wholeK wholeT
  rw [h]
  show (sumsV _ 0, (0 : Int)) = _
  rw [sumsV_zero]
theorem wh_not {xs : List Int} {a b : Nat} (h : (allT xs.length 4).find? (fun t => decide (t.level = (a : Int) ∧ t.index = (b : Int))) = none) : (sumsV (wholeV xs a b) (wholeK xs a b), wholeK xs a b) = (⟨#[]⟩, 5) := by
  unfold wholeV wholeK wholeT
  rw [h]
  show (sumsV _ 5, (5 : Int)) = _
  rw [sumsV_ne _ (by decide)]

set_option maxRecDepth 100000 in
set_option maxHeartbeats 8000000 in
theorem RSAnswer_any (A : Option Addr) (n c : Nat) (es : List Ent) (key now : Int) (s : ByteArray) (w : World) (hr : Rd w 2 A n c (es.flatMap Ent.cells)) (hm : c ≤ maxLen) (hs : s.size ≤ 1048576) :
    Calls Tryz.prog 24 #[.slice A n c, .int .i64 key, .int .i64 now, .string s] w fun e w' => AnsI es key now s e ∧ Ext w w' := by
  have hx := hr.lenE
  have hnc := hr.2.1
  have hcs : c ≤ 9223372036854775807 := by unfold maxLen at hm; omega
  obtain ⟨x, r, hp⟩ : ∃ x r, partsB 32 s = x :: r := by
    cases h : partsB 32 s with
    | nil => exact absurd h (partsB_ne 32 s)
    | cons x r => exact ⟨x, r, rfl⟩
  obtain ⟨q, hq⟩ : ∃ q, r.length = q := ⟨_, rfl⟩
  have HCU : Hid (∀ W, Ext w W → Calls Tryz.prog 7 #[.string s, .int .u8 32] W fun e w' => (∃ ad c1, e = .returned (.slice (some ad) (q + 1) c1) ∧ c1 ≤ maxLen ∧ Rd w' 1 (some ad) (q + 1) c1 ((x :: r).map Value.string)) ∧ Ext W w') := Lib.hid fun W e => by
    refine (RCut_any s 32 W hs).mono fun e' w' hh => ?_
    obtain ⟨⟨v, q1, q2⟩, q3⟩ := hh
    unfold OwnS at q2
    rw [hp] at q2
    obtain ⟨A1, c1, rfl, q4, q5, _⟩ := own_rd q2
    rw [List.length_cons, hq] at q1 q5
    obtain ⟨ad, rfl, _, _⟩ := q5.at_ (j := 0) (u := .string x) rfl
    exact ⟨⟨ad, c1, q1, q4, q5⟩, q3⟩
  have HNU : Hid (∀ (y : ByteArray) W, Calls Tryz.prog 22 #[.string y, .int .i64 4] W fun e w' => e = .returned (.tuple #[.int .i64 (numN y 4), .bool (numR y 4).isSome]) ∧ Ext W w') := Lib.hid fun y W => RNumber_any y 4 W (by omega)
  have HA1 := Lib.hid (askR_want hp)
  have HA2 := Lib.hid fun n => askR_len (n := n) hp
  have HA3 := Lib.hid (askR_bad hp)
  have HA4 := Lib.hid fun n (k : wantN x = some n) l ns (hn : numsR r = some ns) => askR_ok (n := n) (ns := ns) hp k l hn
  have HQ := Lib.hid hq
  have HNO : Hid (askR s = none → ansR es key now s = (⟨#[]⟩, 2)) := Lib.hid fun h => by unfold ansR; rw [h]
  have HLH : Hid (∀ W, Ext w W → Calls Tryz.prog 35 #[.slice A n c, .int .i64 key, .int .i64 now] W fun e w' => e = .returned (.tuple #[(shH es key now).val, .int .i64 (shK es key now)]) ∧ Ext W w') := Lib.hid fun W e => LogHead_any A n c es key now W (hr.ext e) hm
  have HRL : Hid (entsOk es → ∀ W, Ext w W → Calls Tryz.prog 37 #[.slice A n c] W fun e w' => (∃ A2 c2, e = .returned (.slice A2 n c2) ∧ c2 ≤ maxLen ∧ Rd w' 1 A2 n c2 ((es.map Ent.leaf).map (Value.int .i64))) ∧ Ext W w') := Lib.hid fun hk W e => by
    refine (REntryLeafs_ok A n c es W (hr.ext e) hm hk).mono fun e' w' hh => ?_
    obtain ⟨⟨v, q1, q2⟩, q3⟩ := hh
    obtain ⟨A2, c2, rfl, q4, q5⟩ := q2.rd
    rw [List.length_map, hx] at q1 q5
    exact ⟨⟨A2, c2, q1, q4, q5⟩, q3⟩
  obtain ⟨mm, hmm⟩ : ∃ m, manyV x = m := ⟨_, rfl⟩
  have hmb : -1 ≤ mm ∧ mm ≤ 2 := by rw [← hmm]; exact manyV_bd x
  obtain ⟨hmb1, hmb2⟩ := hmb
  have HWF := Lib.hid (word_facts x)
  have HMM := Lib.hid hmm
  have HR := Lib.hid hr
  have HM := Lib.hid hm
  have HX := Lib.hid hx
  obtain ⟨i0, hi0, hz0, hz1, hz2⟩ := info_parts info_int'
  clear hp hq hr hm hx hmm
  go_enter Tryz.func24, Tryz.ntmps24
  go_wp2_with fail
  refine (HCU.out _ (Ext.refl _)).mono ?_
  rintro _ w1 ⟨⟨ad, c1, rfl, hc1, R1⟩, hb1⟩
  have HR1 := Lib.hid R1
  have HE1 := Lib.hid hb1
  have hc1q := R1.2.1
  have hc1s : c1 ≤ 9223372036854775807 := by unfold maxLen at hc1; omega
  obtain ⟨ad', e', hlt, cz⟩ := R1.at_ (j := 0) (u := .string x) rfl
  obtain rfl : ad = ad' := by injection e'
  rw [add_zero'] at cz
  have hq1 : ((q : Int) + 1) ≤ 9223372036854775807 := by omega
  clear R1 hb1 HCU e' hc1
  go_upto_block 0 with (fail)
  go_cut [11] (fun m wc => m = .int .i64 mm ∧ wc = w1)
  case first =>
    as_aux_lemma =>
    rcases HWF.out with ⟨f0, hw⟩ | ⟨f0, f1, hw⟩ | ⟨f0, f1, f2, hw⟩ | ⟨f0, f1, f2, f3, hw⟩ | ⟨f0, f1, f2, f3, f4, hw⟩ | ⟨f0, f1, f2, f3, f4, f5, hw⟩ | ⟨f0, f1, f2, f3, f4, f5, hw⟩
    all_goals
      have hv := Lib.hid (HMM.out.symm.trans (by first | exact manyV_of hw | exact manyV_none hw))
      clear hw
      go_wp2_with fail
      go_meet
      exact ⟨by rw [hv.out]; try rfl, rfl⟩
  case rest =>
  as_aux_lemma =>
  obtain ⟨rfl, hwc⟩ := hcut
  obtain rfl : w1 = wc := hwc.symm
  by_cases hqm : (q : Int) = mm
  case neg =>
    have q1 : (((q + 1 : Nat) : Int) != mm + 1) = true := by simp; omega
    have q2 : ((q : Int) + 1 != mm + 1) = true := by simp; omega
    have hno : askR s = none := by
      cases hw : wantN x with
      | none => exact HA1.out hw
      | some k => exact HA2.out k hw (by rw [HQ.out]; intro h; subst h; exact hqm (by rw [← HMM.out, manyV_of hw]))
    have HZ := Lib.hid (HNO.out hno)
    clear hno
    go_wp2_with fail
    go_ret2
    exact ⟨AnsI.of HZ.out rfl, HE1.out⟩
  subst hqm
  have q1 : (((q + 1 : Nat) : Int) != (q : Int) + 1) = false := by simp
  have q2 : ((q : Int) + 1 != (q : Int) + 1) = false := by simp
  have hwq : wantN x = some q := by
    cases hw : wantN x with
    | none => have := HMM.out; rw [manyV_none hw] at this; omega
    | some k => have := HMM.out; rw [manyV_of hw] at this; congr 1; omega
  have HWQ := Lib.hid hwq
  clear hwq HA1 HA2 HWF HMM hmb1
  have hq2 : q ≤ 2 := by omega
  -- the numbers
  go_upto_region 17 with (fail)
  go_loopw [12, 13, 14, 15] (fun v y _ _ wr => ∃ (i : Nat) (ns : List Nat), y = .int .i64 i ∧ 1 ≤ i ∧ i ≤ q + 1 ∧ Ext w1 wr ∧ Hid (numsR (r.take (i - 1)) = some ns ∧ ns.length = i - 1) ∧ Hid (wr.ownsRow w1.heap.size 3 1 v (i - 1) ((ns.map fun n : Nat => (n : Int)).map (Value.int .i64)))) (fun _ y _ _ _ => q + 1 - (intOf y).toNat)
  case atStart => exact ⟨1, [], rfl, Nat.le_refl _, by omega, Ext.refl _, Lib.hid ⟨rfl, rfl⟩, own_nil _ _ _ _⟩
  case round =>
    obtain ⟨i, ns, rfl, hi1, hi, hbw, HNS, HOW⟩ := hrel
    by_cases hc : i < q + 1
    · have hcI : (i : Int) < (q : Int) + 1 := by omega
      have hcJ : (i : Int) < ((q + 1 : Nat) : Int) := by omega
      obtain ⟨k, rfl⟩ : ∃ k, i = k + 1 := ⟨i - 1, by omega⟩
      have hgy := List.getElem?_eq_getElem (l := r) (i := k) (by rw [HQ.out]; omega)
      generalize r[k]'(by rw [HQ.out]; omega) = y at *
      have HGY := Lib.hid hgy
      obtain ⟨ady, hA, hby, cy⟩ := (HR1.out.ext hbw).getS (j := k + 1) (z := y) (by rw [List.getElem?_cons_succ]; exact hgy)
      obtain rfl : ad = ady := by injection hA
      have hksub : k + 1 - 1 = k := rfl
      rw [hksub] at HNS HOW
      clear hgy hA hksub
      have hkb : k ≤ 2 := by omega
      generalize hik : k + 1 = i at *
      have hik2 : Hid (k + 1 = i) := Lib.hid hik
      clear hik
      go_wp2_with fail
      refine (HNU.out y _).mono ?_
      rintro _ w3 ⟨rfl, hb3⟩
      cases hy : numR y 4 with
      | none =>
        have HH := Lib.hid (HNO.out (HA3.out (numsR_bad HGY.out hy)))
        simp only [Option.isSome]
        go_wp2_with fail
        go_ret2
        exact ⟨AnsI.of HH.out rfl, (HE1.out.trans hbw).trans hb3⟩
      | some v =>
        have hvn : numN y 4 = (v : Int) := by unfold numN; rw [hy]
        have HY := Lib.hid hy
        have hbs := (hbw.trans hb3).size
        simp only [Option.isSome, hvn]
        clear hy hvn
        go_wp2_with (at_builtin; refine wpl_app (by rfl) _ _ _ (by rfl) w1.heap.size 3 i0 _ 1 8 Tryz.underlying85 hi0 hz0 hz1 hz2 rfl (by omega) u12 _ _ (by rfl) ((own_ext HOW.out hb3).alloc _) w3.heap.size 1 [.int .i64 (v : Int)] rfl (by rfl) (news_new w3 _ _ _ rfl) (oneW _) (by omega) (by omega) (by simp; omega) ?_; intro g4 cap w4 own4 hext4)
        go_roundw
        case rel => exact ⟨i + 1, ns ++ [v], by go_num, by omega, by omega, hext4 _ (Nat.le_refl _) (by (repeat (with_reducible first | exact Ext.refl _ | assumption | refine Ext.drew ?_ | refine Ext.drewN ?_ _ | refine Ext.alloc ?_ _ | refine Ext.trans ?_ (by with_reducible assumption)))), Lib.hid ⟨by
          rw [← hik2.out, Nat.add_sub_cancel, List.take_add_one, HGY.out]
          exact numsR_snoc HNS.out.1 HY.out, by rw [List.length_append, HNS.out.2, ← hik2.out]; rfl⟩, Lib.hid (by
          rw [List.map_append, List.map_append, ← hik2.out]
          exact own4)⟩
        case measure => simp [intOf]; omega
    · obtain rfl : i = q + 1 := by omega
      have hns := HNS.out.1
      have hnl := HNS.out.2
      rw [Nat.add_sub_cancel] at hns hnl HOW
      rw [List.take_of_length_le (by rw [HQ.out]; exact Nat.le_refl _)] at hns
      have hask := HA4.out q HWQ.out HQ.out ns hns
      obtain ⟨An, cn, rfl, hcn, Rn, -⟩ := own_rd HOW.out
      have hword := askR_word hask
      have HAK := Lib.hid hask
      have HRn := Lib.hid Rn
      have HE2 := Lib.hid (HE1.out.trans hbw)
      have hcns : cn ≤ 9223372036854775807 := by unfold maxLen at hcn; omega
      have hnn := Rn.2.1
      have czw := (hbw.cell hlt).trans cz
      have hltw := hbw.lt hlt
      have HLH1 := Lib.hid (HLH.out _ HE2.out)
      clear hns hnl HNS HOW Rn hcn hask HA3 HA4 HNU HNO HR1 HE1 cz hlt hbw HLH q1 q2
      obtain ⟨sk, hsk⟩ : ∃ v, shK es key now = v := ⟨_, rfl⟩
      obtain ⟨sh, hsh⟩ : ∃ v, shH es key now = v := ⟨_, rfl⟩
      rw [hsk, hsh] at HLH1
      by_cases hsk0 : sk = 0
      case neg =>
        have hskb : (sk != 0) = true := by simp [hsk0]
        have HZ : Hid (ansR es key now s = (⟨#[]⟩, sk)) := by show ansR es key now s = _; rw [← hsk] at hsk0 ⊢; unfold ansR; rw [HAK.out]; exact if_pos hsk0
        obtain ⟨h0, h1, h2, h3⟩ := sh
        simp only [Hd.val] at HLH1
        clear hsk hsh hword HRL
        go_wp2_with fail
        refine HLH1.out.mono ?_
        rintro _ w3 ⟨rfl, hb3⟩
        have e3 : Ext w (w3.alloc (.cells #[.int .i64 h0, .int .i64 h1, .int .i64 h2, .int .i64 h3] 29)) := (HE2.out.trans hb3).alloc _
        have HE3 := Lib.hid e3
        clear e3 hb3
        go_wp2_with fail
        go_ret2
        exact ⟨AnsI.of HZ.out rfl, HE3.out⟩
      subst hsk0
      have HZ : Hid (ansR es key now s = ansW es sh x (ns.getD 0 0) (ns.getD 1 0)) := by
        show ansR es key now s = _
        rw [← hsh]; unfold ansR; rw [HAK.out]; exact if_neg (not_not_intro hsk)
      obtain ⟨hek, _, hver, hkey⟩ := sh_parts hsk
      have hlo := leafs_of_ents hek
      have hn200 : n ≤ 200 := by have := hek.1; have := HX.out; omega
      have hHok : sh.ok = true := by rw [← hsh]; exact (verK_zero hver).2.1
      have HHT : Hid (∀ W, Calls Tryz.prog 40 #[sh.val] W fun e w' => e = .returned (.string (headB sh)) ∧ Ext W w') := Lib.hid fun W => RHeadText_any sh W hHok
      have HLF := Lib.hid (HRL.out hek)
      have HEK := Lib.hid hek
      have HLO := Lib.hid hlo
      have HTS : Hid (∀ W A n c xs, Rd W 1 A n c (xs.map (Value.int .i64)) → c ≤ maxLen → n ≤ 4096 → allV xs = true → Calls Tryz.prog 41 #[.slice A n c] W fun e w' => e = .returned (.string (textsV xs)) ∧ Ext W w') := Lib.hid fun W A n c xs h1 h2 h3 h4 => RSTexts_any A n c xs W h1 h2 h3 h4
      clear hsk hsh hek hver hkey hlo hHok HAK HRL
      obtain ⟨h0, h1, h2, h3⟩ := sh
      simp only [Hd.val] at *
      go_wp2_with fail
      refine HLH1.out.mono ?_
      rintro _ w3 ⟨rfl, hb3⟩
      have B2 := Bk.at_ w3 29 #[.int .i64 h0, .int .i64 h1, .int .i64 h2, .int .i64 h3] w3.heap.size rfl
      have e2 : Ext wr (w3.alloc (.cells #[.int .i64 h0, .int .i64 h1, .int .i64 h2, .int .i64 h3] 29)) := hb3.alloc _
      go_upto_region 26 with (fail)
      generalize w3.alloc (.cells #[.int .i64 h0, .int .i64 h1, .int .i64 h2, .int .i64 h3] 29) = W3 at *
      generalize w3.heap.size = g2 at *
      have HE3 := Lib.hid (HE2.out.trans e2)
      have HB3 := Lib.hid B2
      have HRn3 := Lib.hid (HRn.out.ext e2)
      have cz3 := (e2.cell hltw).trans czw
      have hlt3 := e2.lt hltw
      clear hb3 e2 B2 HRn czw hltw HE2 HLH1
      go_wp2_with fail
      refine (HLF.out _ HE3.out).mono ?_
      rintro _ w4 ⟨⟨A2, c2, rfl, hc2, R2⟩, hb4⟩
      have HR2 := Lib.hid R2
      have HE4 := Lib.hid (HE3.out.trans hb4)
      have HB4 := Lib.hid (HB3.out.ext hb4)
      have HRn4 := Lib.hid (HRn3.out.ext hb4)
      have cz4 := (hb4.cell hlt3).trans cz3
      have h2c := R2.2.1
      have hc2s : c2 ≤ 9223372036854775807 := by unfold maxLen at hc2; omega
      obtain ⟨xs, hxs⟩ : ∃ xs, es.map Ent.leaf = xs := ⟨_, rfl⟩
      have HXS := Lib.hid hxs
      rw [hxs] at HR2 HLO
      have hxl : xs.length = n := by rw [← hxs, List.length_map, HX.out]
      have HXL := Lib.hid hxl
      have HC2 := Lib.hid hc2
      clear R2 hb4 hxs hxl HLF HB3 HRn3 HE3 cz3 hlt3 hc2
      rcases hword with ⟨rfl, hl⟩ | ⟨rfl, hl⟩ | ⟨rfl, hl⟩ | ⟨rfl, hl⟩ | ⟨rfl, hl⟩ | ⟨rfl, hl⟩
      · -- Head
        as_aux_lemma =>
        have e0 : (wHead.toList == ([104, 101, 97, 100] : List UInt8)) = true := by kernel_rfl
        have y0 := HB4.out.cell 0
        have y1 := HB4.out.cell 1
        have y2 := HB4.out.cell 2
        have y3 := HB4.out.cell 3
        go_wp2_with fail
        refine (HHT.out _).mono ?_
        rintro _ w5 ⟨rfl, hb5⟩
        go_wp2_with fail
        go_ret2
        exact ⟨AnsI.of (HZ.out.trans ansW_head) rfl, HE4.out.trans hb5⟩
      · -- Proof
        as_aux_lemma =>
        have e0 : (wProof.toList == ([104, 101, 97, 100] : List UInt8)) = false := by kernel_rfl
        have e1 : (wProof.toList == ([112, 114, 111, 111, 102] : List UInt8)) = true := by kernel_rfl
        obtain ⟨a, b, rfl⟩ : ∃ a b, ns = [a, b] := by
          match ns, hl with
          | [a, b], _ => exact ⟨a, b, rfl⟩
        obtain ⟨an, rfl, hbn, ca⟩ := HRn4.out.getI (j := 0) (z := (a : Int)) rfl
        obtain ⟨an', e', _, cb⟩ := HRn4.out.getI (j := 1) (z := (b : Int)) rfl
        obtain rfl : an = an' := by injection e'
        rw [add_zero'] at ca
        have hadd : an.add 1 = ⟨an.block, an.off + 1, none⟩ := rfl
        rw [hadd] at cb
        clear hadd e'
        obtain rfl : q = 2 := by
          have h := HWQ.out
          have h2 : wantN wProof = some 2 := by decide
          rw [h2] at h; injection h with h; omega
        have HW0 : Hid (ansR es key now s = (sumsV (pmV xs a b) (pmK xs a b), pmK xs a b)) := Lib.hid (HZ.out.trans (by have := ansW_proof (es := es) (h := ⟨h0, h1, h2, h3⟩) (a := a) (b := b); rw [HXS.out] at this; exact this))
        have h3 : b ≤ a ∨ (a < b ∧ n < b) ∨ (a < b ∧ b ≤ n) := by omega
        rcases h3 with k1 | ⟨k1, k2⟩ | ⟨k1, k2⟩
        · have HW := Lib.hid (HW0.out.trans (pm_not HLO.out (by omega)))
          have k1' : (b : Int) ≤ (a : Int) := by omega
          have d1 : decide ((b : Int) ≤ (a : Int)) = true := decide_eq_true k1'
          clear HZ HHT HB4 HW0 HTS
          go_wp2_with fail
          go_quiet (fail)
          go_wp2_with fail
          go_ret2
          exact ⟨AnsI.of HW.out rfl, HE4.out.trans (by (repeat (with_reducible first | exact Ext.refl _ | assumption | refine Ext.drew ?_ | refine Ext.drewN ?_ _ | refine Ext.alloc ?_ _ | refine Ext.trans ?_ (by with_reducible assumption))))⟩
        · have HW := Lib.hid (HW0.out.trans (pm_not HLO.out (by rw [HXL.out]; omega)))
          have k1' : ¬ (b : Int) ≤ (a : Int) := by omega
          have d1 : decide ((b : Int) ≤ (a : Int)) = false := decide_eq_false k1'
          have k2' : (n : Int) < (b : Int) := by omega
          have d2 : decide ((n : Int) < (b : Int)) = true := decide_eq_true k2'
          clear HZ HHT HB4 HW0 HTS
          go_wp2_with fail
          go_quiet (fail)
          go_wp2_with fail
          go_ret2
          exact ⟨AnsI.of HW.out rfl, HE4.out.trans (by (repeat (with_reducible first | exact Ext.refl _ | assumption | refine Ext.drew ?_ | refine Ext.drewN ?_ _ | refine Ext.alloc ?_ _ | refine Ext.trans ?_ (by with_reducible assumption))))⟩
        · have HW := Lib.hid (HW0.out.trans (pm_ref HLO.out k1 (by rw [HXL.out]; omega)))
          have k1' : ¬ (b : Int) ≤ (a : Int) := by omega
          have d1 : decide ((b : Int) ≤ (a : Int)) = false := decide_eq_false k1'
          have k2' : ¬ (n : Int) < (b : Int) := by omega
          have d2 : decide ((n : Int) < (b : Int)) = false := decide_eq_false k2'
          have htl : (xs.take b).length = b := by rw [List.length_take, HXL.out]; omega
          have hvt := allV_take HLO.out.2 b
          have HTK : Hid (∀ W, Ext w4 W → Rd W 1 A2 b c2 ((xs.take b).map (Value.int .i64))) := Lib.hid fun W e => by
            have := ((HR2.out.ext e).takeI (k := b) k2)
            exact this
          have HC : Hid (∀ W, Ext w4 W → Calls Tryz.prog 42 #[.slice A2 b c2, .int .i64 a] W fun e w' => (∃ v, e = .returned v ∧ OwnI W w' v (wayL (xs.take b) a)) ∧ Ext W w') := Lib.hid fun W e => RWay_any b A2 b c2 (xs.take b) a W (Nat.le_refl _) (HTK.out W e) HC2.out (by omega) (by omega) hvt k1
          have hb1 : (wayL (xs.take b) a).length ≤ 4096 := way_len_le (by omega)
          have hb2 : allV (wayL (xs.take b) a) = true := allV_way _ _ _ (Nat.le_refl _) (by omega) hvt
          obtain ⟨vs, hvs⟩ : ∃ v, wayL (xs.take b) a = v := ⟨_, rfl⟩
          rw [hvs] at hb1 hb2 HC HW
          have HB1 := Lib.hid hb1
          have HV1 := Lib.hid hb2
          have CA : Hid (∀ W, Ext w4 W → W.cell? an = some (.int .i64 a)) := Lib.hid fun W e => (e.cell hbn).trans ca
          have CB : Hid (∀ W, Ext w4 W → W.cell? ⟨an.block, an.off + 1, none⟩ = some (.int .i64 b)) := Lib.hid fun W e => (e.cell (p := ⟨an.block, an.off + 1, none⟩) hbn).trans cb
          clear hvs hb1 hb2 HZ HHT HB4 HW0 htl hvt HTK
          go_wp2_with fail
          go_quiet (fail)
          go_wp2_with fail
          go_region_with (first
            | (go_at_call 42; refine (HC.out _ ?_).mono ?_; (focus ((repeat (with_reducible first | exact Ext.refl _ | assumption | refine Ext.drew ?_ | refine Ext.drewN ?_ _ | refine Ext.alloc ?_ _ | refine Ext.trans ?_ (by with_reducible assumption))); done)); rintro _ w5 ⟨⟨v5, rfl, own5⟩, hb5⟩; have hv5 := own_rd own5; obtain ⟨A5, c5, rfl, hc5, R5, -⟩ := hv5; have HC5 := Lib.hid hc5; have HR5 := Lib.hid R5; clear own5 hc5 R5; have E5 : Hid (Ext w4 w5) := Lib.hid (Ext.trans (by (repeat (with_reducible first | exact Ext.refl _ | assumption | refine Ext.drew ?_ | refine Ext.drewN ?_ _ | refine Ext.alloc ?_ _ | refine Ext.trans ?_ (by with_reducible assumption)))) hb5); have ca5 := CA.out _ E5.out; have cb5 := CB.out _ E5.out)
            | (go_at_call 41; refine (HTS.out _ _ _ _ _ (HR5.out.ext ?_) HC5.out HB1.out HV1.out).mono ?_; (focus ((repeat (with_reducible first | exact Ext.refl _ | assumption | refine Ext.drew ?_ | refine Ext.drewN ?_ _ | refine Ext.alloc ?_ _ | refine Ext.trans ?_ (by with_reducible assumption))); done)); rintro _ w6 ⟨rfl, hb6⟩)
            | fail)
          all_goals
            have e6 : Ext w4 w6 := Ext.trans (Ext.trans E5.out (by (repeat (with_reducible first | exact Ext.refl _ | assumption | refine Ext.drew ?_ | refine Ext.drewN ?_ _ | refine Ext.alloc ?_ _ | refine Ext.trans ?_ (by with_reducible assumption))))) hb6
            go_wp2_with fail
            go_ret2
            exact ⟨AnsI.of HW.out rfl, HE4.out.trans e6⟩
      · -- Grow
        as_aux_lemma =>
        have e0 : (wGrow.toList == ([104, 101, 97, 100] : List UInt8)) = false := by kernel_rfl
        have e1 : (wGrow.toList == ([112, 114, 111, 111, 102] : List UInt8)) = false := by kernel_rfl
        have e2 : (wGrow.toList == ([103, 114, 111, 119] : List UInt8)) = true := by kernel_rfl
        obtain ⟨a, b, rfl⟩ : ∃ a b, ns = [a, b] := by
          match ns, hl with
          | [a, b], _ => exact ⟨a, b, rfl⟩
        obtain ⟨an, rfl, hbn, ca⟩ := HRn4.out.getI (j := 0) (z := (a : Int)) rfl
        obtain ⟨an', e', _, cb⟩ := HRn4.out.getI (j := 1) (z := (b : Int)) rfl
        obtain rfl : an = an' := by injection e'
        rw [add_zero'] at ca
        have hadd : an.add 1 = ⟨an.block, an.off + 1, none⟩ := rfl
        rw [hadd] at cb
        clear hadd e'
        obtain rfl : q = 2 := by
          have h := HWQ.out
          have h2 : wantN wGrow = some 2 := by decide
          rw [h2] at h; injection h with h; omega
        have HW0 : Hid (ansR es key now s = (sumsV (gmV xs a b) (gmK xs a b), gmK xs a b)) := Lib.hid (HZ.out.trans (by have := ansW_grow (es := es) (h := ⟨h0, h1, h2, h3⟩) (a := a) (b := b); rw [HXS.out] at this; exact this))
        have h3 : a < 1 ∨ (1 ≤ a ∧ b < a) ∨ (1 ≤ a ∧ a ≤ b ∧ n < b) ∨ (1 ≤ a ∧ a ≤ b ∧ b ≤ n) := by omega
        rcases h3 with k1 | ⟨k1, k2⟩ | ⟨k1, k2, k3⟩ | ⟨k0, k1, k2⟩
        · have HW := Lib.hid (HW0.out.trans (gm_not HLO.out (by rw [HXL.out]; omega)))
          have q1' : (a : Int) < 1 := by omega
          have q1d : decide ((a : Int) < 1) = true := decide_eq_true q1'
          clear HZ HHT HB4 HW0 HTS
          go_wp2_with fail
          go_quiet (fail)
          go_wp2_with fail
          go_ret2
          exact ⟨AnsI.of HW.out rfl, HE4.out.trans (by (repeat (with_reducible first | exact Ext.refl _ | assumption | refine Ext.drew ?_ | refine Ext.drewN ?_ _ | refine Ext.alloc ?_ _ | refine Ext.trans ?_ (by with_reducible assumption))))⟩
        · have HW := Lib.hid (HW0.out.trans (gm_not HLO.out (by rw [HXL.out]; omega)))
          have q1' : ¬ ((a : Int) < 1) := by omega
          have q1d : decide ((a : Int) < 1) = false := decide_eq_false q1'
          have q2' : (b : Int) < (a : Int) := by omega
          have q2d : decide ((b : Int) < (a : Int)) = true := decide_eq_true q2'
          clear HZ HHT HB4 HW0 HTS
          go_wp2_with fail
          go_quiet (fail)
          go_wp2_with fail
          go_ret2
          exact ⟨AnsI.of HW.out rfl, HE4.out.trans (by (repeat (with_reducible first | exact Ext.refl _ | assumption | refine Ext.drew ?_ | refine Ext.drewN ?_ _ | refine Ext.alloc ?_ _ | refine Ext.trans ?_ (by with_reducible assumption))))⟩
        · have HW := Lib.hid (HW0.out.trans (gm_not HLO.out (by rw [HXL.out]; omega)))
          have q1' : ¬ ((a : Int) < 1) := by omega
          have q1d : decide ((a : Int) < 1) = false := decide_eq_false q1'
          have q2' : ¬ ((b : Int) < (a : Int)) := by omega
          have q2d : decide ((b : Int) < (a : Int)) = false := decide_eq_false q2'
          have q3' : (n : Int) < (b : Int) := by omega
          have q3d : decide ((n : Int) < (b : Int)) = true := decide_eq_true q3'
          clear HZ HHT HB4 HW0 HTS
          go_wp2_with fail
          go_quiet (fail)
          go_wp2_with fail
          go_ret2
          exact ⟨AnsI.of HW.out rfl, HE4.out.trans (by (repeat (with_reducible first | exact Ext.refl _ | assumption | refine Ext.drew ?_ | refine Ext.drewN ?_ _ | refine Ext.alloc ?_ _ | refine Ext.trans ?_ (by with_reducible assumption))))⟩
        · have HW := Lib.hid (HW0.out.trans (gm_ref HLO.out k0 k1 (by rw [HXL.out]; omega)))
          have q1' : ¬ ((a : Int) < 1) := by omega
          have q1d : decide ((a : Int) < 1) = false := decide_eq_false q1'
          have q2' : ¬ ((b : Int) < (a : Int)) := by omega
          have q2d : decide ((b : Int) < (a : Int)) = false := decide_eq_false q2'
          have q3' : ¬ ((n : Int) < (b : Int)) := by omega
          have q3d : decide ((n : Int) < (b : Int)) = false := decide_eq_false q3'
          have htl : (xs.take b).length = b := by rw [List.length_take, HXL.out]; omega
          have hvt := allV_take HLO.out.2 b
          have HTK : Hid (∀ W, Ext w4 W → Rd W 1 A2 b c2 ((xs.take b).map (Value.int .i64))) := Lib.hid fun W e => by
            have := ((HR2.out.ext e).takeI (k := b) k2)
            exact this
          have HC : Hid (∀ W, Ext w4 W → Calls Tryz.prog 36 #[.slice A2 b c2, .int .i64 a, .bool true] W fun e w' => (∃ v, e = .returned v ∧ OwnI W w' v (growL (xs.take b) a true)) ∧ Ext W w') := Lib.hid fun W e => RGrow_any b A2 b c2 (xs.take b) a true W (Nat.le_refl _) (HTK.out W e) HC2.out k0 k1 (by omega) hvt
          have hb1 : (growL (xs.take b) a true).length ≤ 4096 := by
            rw [growL_len b _ _ _ (by omega) (by omega) (by omega) (by omega), htl]
            have := gsteps_le b a b true (Nat.le_refl _) (by omega) (by omega)
            omega
          have hb2 : allV (growL (xs.take b) a true) = true := growL_vld b _ _ _ (by omega) (by omega) (by omega) (by omega) hvt
          obtain ⟨vs, hvs⟩ : ∃ v, growL (xs.take b) a true = v := ⟨_, rfl⟩
          rw [hvs] at hb1 hb2 HC HW
          have HB1 := Lib.hid hb1
          have HV1 := Lib.hid hb2
          have CA : Hid (∀ W, Ext w4 W → W.cell? an = some (.int .i64 a)) := Lib.hid fun W e => (e.cell hbn).trans ca
          have CB : Hid (∀ W, Ext w4 W → W.cell? ⟨an.block, an.off + 1, none⟩ = some (.int .i64 b)) := Lib.hid fun W e => (e.cell (p := ⟨an.block, an.off + 1, none⟩) hbn).trans cb
          clear hvs hb1 hb2 HZ HHT HB4 HW0 htl hvt HTK
          go_wp2_with fail
          go_quiet (fail)
          go_wp2_with fail
          go_region_with (first
            | (go_at_call 36; refine (HC.out _ ?_).mono ?_; (focus ((repeat (with_reducible first | exact Ext.refl _ | assumption | refine Ext.drew ?_ | refine Ext.drewN ?_ _ | refine Ext.alloc ?_ _ | refine Ext.trans ?_ (by with_reducible assumption))); done)); rintro _ w5 ⟨⟨v5, rfl, own5⟩, hb5⟩; have hv5 := own_rd own5; obtain ⟨A5, c5, rfl, hc5, R5, -⟩ := hv5; have HC5 := Lib.hid hc5; have HR5 := Lib.hid R5; clear own5 hc5 R5; have E5 : Hid (Ext w4 w5) := Lib.hid (Ext.trans (by (repeat (with_reducible first | exact Ext.refl _ | assumption | refine Ext.drew ?_ | refine Ext.drewN ?_ _ | refine Ext.alloc ?_ _ | refine Ext.trans ?_ (by with_reducible assumption)))) hb5); have ca5 := CA.out _ E5.out; have cb5 := CB.out _ E5.out)
            | (go_at_call 41; refine (HTS.out _ _ _ _ _ (HR5.out.ext ?_) HC5.out HB1.out HV1.out).mono ?_; (focus ((repeat (with_reducible first | exact Ext.refl _ | assumption | refine Ext.drew ?_ | refine Ext.drewN ?_ _ | refine Ext.alloc ?_ _ | refine Ext.trans ?_ (by with_reducible assumption))); done)); rintro _ w6 ⟨rfl, hb6⟩)
            | fail)
          all_goals
            have e6 : Ext w4 w6 := Ext.trans (Ext.trans E5.out (by (repeat (with_reducible first | exact Ext.refl _ | assumption | refine Ext.drew ?_ | refine Ext.drewN ?_ _ | refine Ext.alloc ?_ _ | refine Ext.trans ?_ (by with_reducible assumption))))) hb6
            go_wp2_with fail
            go_ret2
            exact ⟨AnsI.of HW.out rfl, HE4.out.trans e6⟩
      · -- Tile
        as_aux_lemma =>
        have e0 : (wTile.toList == ([104, 101, 97, 100] : List UInt8)) = false := by kernel_rfl
        have e1 : (wTile.toList == ([112, 114, 111, 111, 102] : List UInt8)) = false := by kernel_rfl
        have e2 : (wTile.toList == ([103, 114, 111, 119] : List UInt8)) = false := by kernel_rfl
        have e3 : (wTile.toList == ([116, 105, 108, 101] : List UInt8)) = true := by kernel_rfl
        obtain ⟨a, b, rfl⟩ : ∃ a b, ns = [a, b] := by
          match ns, hl with
          | [a, b], _ => exact ⟨a, b, rfl⟩
        obtain ⟨an, rfl, hbn, ca⟩ := HRn4.out.getI (j := 0) (z := (a : Int)) rfl
        obtain ⟨an', e', _, cb⟩ := HRn4.out.getI (j := 1) (z := (b : Int)) rfl
        obtain rfl : an = an' := by injection e'
        rw [add_zero'] at ca
        have hadd : an.add 1 = ⟨an.block, an.off + 1, none⟩ := rfl
        rw [hadd] at cb
        clear hadd e'
        obtain rfl : q = 2 := by
          have h := HWQ.out
          have h2 : wantN wTile = some 2 := by decide
          rw [h2] at h; injection h with h; omega
        have HW0 : Hid (ansR es key now s = (sumsV (wholeV xs a b) (wholeK xs a b), wholeK xs a b)) := Lib.hid (HZ.out.trans (by have := ansW_tile (es := es) (h := ⟨h0, h1, h2, h3⟩) (a := a) (b := b); rw [HXS.out] at this; exact this))
        have CA : Hid (∀ W, Ext w4 W → W.cell? an = some (.int .i64 a)) := Lib.hid fun W e => (e.cell hbn).trans ca
        have CB : Hid (∀ W, Ext w4 W → W.cell? ⟨an.block, an.off + 1, none⟩ = some (.int .i64 b)) := Lib.hid fun W e => (e.cell (p := ⟨an.block, an.off + 1, none⟩) hbn).trans cb
        have HTI : Hid (∀ W, Calls Tryz.prog 43 #[.int .i64 n] W fun e w' => (∃ v, e = .returned v ∧ OwnT W w' v (allT n 4)) ∧ Ext W w') := Lib.hid fun W => RTiles_any n W hn200
        have HTM : Hid (∀ t ∈ allT n 4, ∃ k i m : Nat, k < 4 ∧ t = ⟨(k : Int), (i : Int), (m : Int)⟩ ∧ 1 ≤ m ∧ m ≤ 4 ∧ i * 4 + m ≤ n / 4 ^ k) := Lib.hid (allT_mem n 4)
        have hlen := allT_len n hn200 4
        have HSO : Hid (∀ k i m : Nat, k ≤ 3 → m ≤ 4 → i * 4 + m ≤ n / 4 ^ k → ∀ W, Ext w4 W → Calls Tryz.prog 44 #[.slice A2 n c2, .agg #[.int .i64 k, .int .i64 i, .int .i64 m]] W fun e w' => (∃ A6 c6, e = .returned (.slice A6 m c6) ∧ c6 ≤ maxLen ∧ Rd w' 1 A6 m c6 ((sumsT xs k i m).map (Value.int .i64)) ∧ allV (sumsT xs k i m) = true) ∧ Ext W w') := Lib.hid fun k i m q1 q2 q3 W e => by
          refine (RTileSums_any A2 n c2 xs k i m W (HR2.out.ext e) HC2.out HLO.out q1 q2 q3).mono fun e' w' hh => ?_
          obtain ⟨⟨v, q4, q5⟩, q6⟩ := hh
          obtain ⟨A6, c6, rfl, q7, q8, _⟩ := own_rd q5
          rw [sumsT_len] at q4 q8
          exact ⟨⟨A6, c6, q4, q7, q8, (sumsT_leafs HLO.out.2 (by rw [HXL.out]; exact hn200) k i m q2).2⟩, q6⟩
        obtain ⟨ts, hts⟩ : ∃ ts, allT n 4 = ts := ⟨_, rfl⟩
        have HV1 : Hid (∀ t : Tl, ts.find? (fun t => decide (t.level = (a : Int) ∧ t.index = (b : Int))) = some t → ansR es key now s = (textsV (sumsT xs t.level.toNat t.index.toNat t.wide.toNat), 0)) := Lib.hid fun t h => HW0.out.trans (wh_ref (by rw [HXL.out, hts]; exact h))
        have HV0 : Hid (ts.find? (fun t => decide (t.level = (a : Int) ∧ t.index = (b : Int))) = none → ansR es key now s = (⟨#[]⟩, 5)) := Lib.hid fun h => HW0.out.trans (wh_not (by rw [HXL.out, hts]; exact h))
        rw [hts] at HTI HTM hlen
        clear HZ HHT HB4 HW0 hts ca cb
        go_wp2_with fail
        refine (HTI.out _).mono ?_
        rintro _ w5 ⟨⟨v5, rfl, own5⟩, hb5⟩
        obtain ⟨A5, c5, rfl, hc5, R5, -⟩ := own_rd own5
        obtain ⟨l, hlt⟩ : ∃ l, ts.length = l := ⟨_, rfl⟩
        rw [hlt] at R5
        rw [hlt]
        have HL := Lib.hid hlt
        have HR5 := Lib.hid R5
        have HE5 := Lib.hid hb5
        have hl2000 : l ≤ 2000 := by omega
        have hlc := R5.2.1
        have hc5s : c5 ≤ 9223372036854775807 := by unfold maxLen at hc5; omega
        clear own5 R5 hb5 hlt HTI hlen cz4
        go_wp2_with fail
        go_loopw [20] (fun y wr => ∃ j : Nat, y = .int .i64 j ∧ j ≤ l ∧ Hid (Ext w5 wr) ∧ Hid (∀ (q : Nat) y, q < j → ts[q]? = some y → decide (y.level = (a : Int) ∧ y.index = (b : Int)) = false)) (fun y _ => l - (intOf y).toNat)
        case atStart => exact ⟨0, rfl, Nat.zero_le _, Lib.hid (Ext.refl _), Lib.hid fun q y h => absurd h (by omega)⟩
        case round =>
          obtain ⟨j, rfl, hj, HE5r, HNO⟩ := hrel
          have HE4r := Lib.hid (HE5.out.trans HE5r.out)
          by_cases hc : j < l
          case neg =>
            obtain rfl : j = l := by omega
            have HW := Lib.hid (HV0.out (find_no _ _ fun q y hq hy => HNO.out q y (by rw [← HL.out]; exact hq) hy))
            clear HV1 HV0 HSO
            go_wp2_with fail
            go_ret2
            exact ⟨AnsI.of HW.out rfl, HE4.out.trans HE4r.out⟩
          have hcI : (j : Int) < (l : Int) := by omega
          have hgj := List.getElem?_eq_getElem (l := ts) (i := j) (by rw [HL.out]; exact hc)
          have hmem := HTM.out _ (List.mem_of_getElem? hgj)
          obtain ⟨at_, hA, hb, c0, c1', c2'⟩ := (HR5.out.ext HE5r.out).getT hgj
          generalize ts[j]'(by rw [HL.out]; exact hc) = t at *
          obtain ⟨tk, ti, tm, ht1, rfl, ht2, ht3, ht4⟩ := hmem
          subst hA
          have HGJ := Lib.hid hgj
          have HT4 := Lib.hid ht4
          have ca := CA.out _ HE4r.out
          have cb := CB.out _ HE4r.out
          dsimp only at c0 c1' c2'
          clear hgj ht4
          by_cases hk2 : tk = a
          case neg =>
            have hb' : ((tk : Int) == (a : Int)) = false := beq_eq_false_iff_ne.2 (by omega)
            go_wp2_with fail
            go_quiet (fail)
            go_wp2_with fail
            go_roundw
            case rel => exact ⟨j + 1, by go_num, by omega, Lib.hid (HE5r.out.trans (by (repeat (with_reducible first | exact Ext.refl _ | assumption | refine Ext.drew ?_ | refine Ext.drewN ?_ _ | refine Ext.alloc ?_ _ | refine Ext.trans ?_ (by with_reducible assumption))))), Lib.hid fun q y hq hy => by
              by_cases hqj : q = j
              · subst hqj
                rw [HGJ.out] at hy
                injection hy with hy
                subst hy
                exact decide_eq_false fun h => hk2 (by have h1 : (tk : Int) = (a : Int) := h.1; omega)
              · exact HNO.out q y (by omega) hy⟩
            case measure => simp [intOf]; omega
          subst hk2
          by_cases hi2 : ti = b
          case neg =>
            have hb' : ((ti : Int) == (b : Int)) = false := beq_eq_false_iff_ne.2 (by omega)
            have hb2' : ((tk : Int) == (tk : Int)) = true := beq_iff_eq.2 rfl
            go_wp2_with fail
            go_quiet (fail)
            go_wp2_with fail
            go_roundw
            case rel => exact ⟨j + 1, by go_num, by omega, Lib.hid (HE5r.out.trans (by (repeat (with_reducible first | exact Ext.refl _ | assumption | refine Ext.drew ?_ | refine Ext.drewN ?_ _ | refine Ext.alloc ?_ _ | refine Ext.trans ?_ (by with_reducible assumption))))), Lib.hid fun q y hq hy => by
              by_cases hqj : q = j
              · subst hqj
                rw [HGJ.out] at hy
                injection hy with hy
                subst hy
                exact decide_eq_false fun h => hi2 (by have h1 : (ti : Int) = (b : Int) := h.2; omega)
              · exact HNO.out q y (by omega) hy⟩
            case measure => simp [intOf]; omega
          subst hi2
          have hb2' : ((tk : Int) == (tk : Int)) = true := beq_iff_eq.2 rfl
          have hb3' : ((ti : Int) == (ti : Int)) = true := beq_iff_eq.2 rfl
          have HW := Lib.hid (HV1.out ⟨(tk : Int), (ti : Int), (tm : Int)⟩ (find_at _ ts j _ HGJ.out (fun i y hi hy => HNO.out i y hi hy) (decide_eq_true ⟨rfl, rfl⟩)))
          simp only [Int.toNat_natCast] at HW
          have HC := Lib.hid (HSO.out tk ti tm (by omega) ht3 HT4.out)
          clear HV1 HV0 HSO
          go_wp2_with fail
          go_quiet (fail)
          go_wp2_with fail
          refine (HC.out _ (HE4r.out.trans (by (repeat (with_reducible first | exact Ext.refl _ | assumption | refine Ext.drew ?_ | refine Ext.drewN ?_ _ | refine Ext.alloc ?_ _ | refine Ext.trans ?_ (by with_reducible assumption)))))).mono ?_
          rintro _ w6 ⟨⟨A6, c6, rfl, hc6, R6, v6⟩, hb6⟩
          have HR6 := Lib.hid R6
          have HV6 := Lib.hid v6
          clear R6 v6
          go_wp2_with fail
          refine (HTS.out _ _ _ _ _ HR6.out hc6 (by omega) HV6.out).mono ?_
          rintro _ w7 ⟨rfl, hb7⟩
          go_wp2_with fail
          go_ret2
          exact ⟨AnsI.of HW.out rfl, HE4.out.trans (HE4r.out.trans (by (repeat (with_reducible first | exact Ext.refl _ | assumption | refine Ext.drew ?_ | refine Ext.drewN ?_ _ | refine Ext.alloc ?_ _ | refine Ext.trans ?_ (by with_reducible assumption)))))⟩
      · -- Leaf
        as_aux_lemma =>
        have e0 : (wLeaf.toList == ([104, 101, 97, 100] : List UInt8)) = false := by kernel_rfl
        have e1 : (wLeaf.toList == ([112, 114, 111, 111, 102] : List UInt8)) = false := by kernel_rfl
        have e2 : (wLeaf.toList == ([103, 114, 111, 119] : List UInt8)) = false := by kernel_rfl
        have e3 : (wLeaf.toList == ([116, 105, 108, 101] : List UInt8)) = false := by kernel_rfl
        have e4 : (wLeaf.toList == ([108, 101, 97, 102] : List UInt8)) = true := by kernel_rfl
        obtain ⟨a, rfl⟩ : ∃ a, ns = [a] := by
          match ns, hl with
          | [a], _ => exact ⟨a, rfl⟩
        obtain ⟨an, rfl, hbn, ca⟩ := HRn4.out.getI (j := 0) (z := (a : Int)) rfl
        rw [add_zero'] at ca
        obtain rfl : q = 1 := by
          have h := HWQ.out
          have h2 : wantN wLeaf = some 1 := by decide
          rw [h2] at h; injection h with h; omega
        by_cases han : a < n
        case neg =>
          have hno : es[a]? = none := List.getElem?_eq_none (by rw [HX.out]; omega)
          have HW := Lib.hid (HZ.out.trans (ansW_leaf0 (h := ⟨h0, h1, h2, h3⟩) (b := 0) hno))
          have hanI : (n : Int) ≤ (a : Int) := by omega
          clear HZ HHT HB4 hno HTS
          go_wp2_with fail
          go_ret2
          exact ⟨AnsI.of HW.out rfl, HE4.out⟩
        have hge := List.getElem?_eq_getElem (l := es) (i := a) (by rw [HX.out]; exact han)
        generalize es[a]'(by rw [HX.out]; exact han) = x at *
        have HW := Lib.hid (HZ.out.trans (ansW_leaf (h := ⟨h0, h1, h2, h3⟩) (b := 0) hge))
        have hanI : (a : Int) < (n : Int) := by omega
        have hgx : xs[a]? = some x.leaf := by rw [← HXS.out, List.getElem?_map, hge]; rfl
        obtain ⟨ad2, rfl, hb2, cz⟩ := HR2.out.getI hgx
        obtain ⟨z, hz⟩ : ∃ z, x.leaf = z := ⟨_, rfl⟩
        have hvz := allV_get HLO.out.2 hgx
        rw [hz] at cz HW hvz
        obtain ⟨hz1, hz2⟩ := vld_true hvz
        obtain ⟨z, rfl⟩ := Int.eq_ofNat_of_zero_le hz1
        rw [Int.toNat_natCast] at HW
        have HTZ := Lib.hid fun W => RText_any z W (by omega)
        clear HZ HHT HB4 hge hgx hz hvz HTS hz1 hz2
        go_wp2_with fail
        refine (HTZ.out _).mono ?_
        rintro _ w5 ⟨rfl, hb5⟩
        go_wp2_with fail
        go_ret2
        exact ⟨AnsI.of HW.out rfl, HE4.out.trans hb5⟩
      · -- Entry
        as_aux_lemma =>
        have e0 : (wEntry.toList == ([104, 101, 97, 100] : List UInt8)) = false := by kernel_rfl
        have e1 : (wEntry.toList == ([112, 114, 111, 111, 102] : List UInt8)) = false := by kernel_rfl
        have e2 : (wEntry.toList == ([103, 114, 111, 119] : List UInt8)) = false := by kernel_rfl
        have e3 : (wEntry.toList == ([116, 105, 108, 101] : List UInt8)) = false := by kernel_rfl
        have e4 : (wEntry.toList == ([108, 101, 97, 102] : List UInt8)) = false := by kernel_rfl
        obtain ⟨a, rfl⟩ : ∃ a, ns = [a] := by
          match ns, hl with
          | [a], _ => exact ⟨a, rfl⟩
        obtain ⟨an, rfl, hbn, ca⟩ := HRn4.out.getI (j := 0) (z := (a : Int)) rfl
        rw [add_zero'] at ca
        obtain rfl : q = 1 := by
          have h := HWQ.out
          have h2 : wantN wEntry = some 1 := by decide
          rw [h2] at h; injection h with h; omega
        by_cases han : a < n
        case neg =>
          have hno : es[a]? = none := List.getElem?_eq_none (by rw [HX.out]; omega)
          have HW := Lib.hid (HZ.out.trans (ansW_entry0 (h := ⟨h0, h1, h2, h3⟩) (b := 0) hno))
          have hanI : (n : Int) ≤ (a : Int) := by omega
          clear HZ HHT HB4 hno HTS
          go_wp2_with fail
          go_ret2
          exact ⟨AnsI.of HW.out rfl, HE4.out⟩
        have hge := List.getElem?_eq_getElem (l := es) (i := a) (by rw [HX.out]; exact han)
        have hek1 := HEK.out.2 _ (List.mem_of_getElem? hge)
        generalize es[a]'(by rw [HX.out]; exact han) = x at *
        have HW := Lib.hid (HZ.out.trans (ansW_entry (h := ⟨h0, h1, h2, h3⟩) (b := 0) hge))
        have hanI : (a : Int) < (n : Int) := by omega
        obtain ⟨xt, xd⟩ := x
        obtain ⟨hk1, hk2, hk3⟩ := hek1
        dsimp only at hk1 hk2 hk3
        obtain ⟨t, rfl⟩ := Int.eq_ofNat_of_zero_le hk1
        obtain ⟨ad2, hA2, hb2, c0, c1'⟩ := (HR.out.ext HE4.out).getE hge
        subst hA2
        dsimp only at c0 c1'
        have HI := Lib.hid fun W => RDigits_any t t W (Nat.le_refl _) (by omega)
        have HD1 : Hid (entT ⟨(t : Int), xd⟩ = digB t ++ ⟨#[32]⟩ ++ xd) := rfl
        rw [HD1.out] at HW
        obtain ⟨dt, hdt⟩ : ∃ s, digB t = s := ⟨_, rfl⟩
        have hds : dt.size ≤ 7 := by rw [← hdt]; exact digB_small 6 _ (by show t < 10000000; omega)
        rw [hdt] at HI HW
        have B16 := Bk.at_ w4 67 #[.int .i64 t, .string xd] w4.heap.size rfl
        have e16 : Ext w4 (w4.alloc (.cells #[.int .i64 t, .string xd] 67)) := (Ext.refl _).alloc _
        clear HZ HHT HB4 hge hdt HTS
        go_upto_region 51 with (fail)
        generalize w4.alloc (.cells #[.int .i64 t, .string xd] 67) = W4 at *
        generalize w4.heap.size = g4 at *
        have HB16 := Lib.hid B16
        have HE5 := Lib.hid (HE4.out.trans e16)
        have y0 := B16.cell 0
        clear B16 e16 c0 c1' ca
        go_wp2_with fail
        refine (HI.out _).mono ?_
        rintro _ w5 ⟨rfl, hb5⟩
        have y1 := (HB16.out.ext hb5).cell 1
        clear y0
        go_wp2_with fail
        go_ret2
        exact ⟨AnsI.of HW.out rfl, HE5.out.trans hb5⟩
end Go.Proofs.YtnphbkjkeipmmaaGreatDoor
