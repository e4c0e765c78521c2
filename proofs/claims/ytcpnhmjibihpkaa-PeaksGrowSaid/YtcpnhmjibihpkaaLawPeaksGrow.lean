import Derived.Test.YtcpnhmjibihpkaaPeaks5
import Derived.Test.YtcpnhmjibihpkaaTot
import Derived.Test.YtcpnhmjibihpkaaAt
import Derived.Test.YtcpnhmjibihpkaaQuiet
import Derived.Deep.DeepCutAuto
import Derived.Deep.CutBlock
namespace Go.Proofs.Ytcpnhmjibihpkaa.peaksGrow
open Go.RowKit
set_option linter.unusedVariables false
attribute [local go_sem ↓] Go.wp_at_zero Go.wp_at_succ

theorem app_ok {xs : List Int} {s : Int} (h : vld s = true) (hl : xs.length < 200) : appK xs.length s = 0 ∧ appX xs s = xs ++ [s] := ⟨appK_zero ⟨h, hl⟩, appX_yes ⟨h, hl⟩⟩

set_option maxRecDepth 100000 in
set_option maxHeartbeats 8000000 in
theorem walk (A : Option Addr) (n c : Nat) (xs : List Int) (at_ : Int) (w : World) (hl : xs.length = n) (hm : c ≤ maxLen) (hr : Rd w 1 A n c (xs.map (Value.int .i64))) (hgd : ∀ y ∈ xs, igood y) (h0 : igood at_) :
    Calls Try.prog 13 #[.slice A n c, .int .i64 at_] w fun e w' => e = .returned (.bool true) ∧ Ext w w' := by
  have hlc := hr.2.1
  have HX := Lib.hid hl
  have hms : c ≤ 9223372036854775807 := by unfold maxLen at hm; omega
  clear hl hgd h0
  obtain ⟨K1, X1⟩ := app_ok (xs := []) (s := 5) (by decide) (by decide)
  obtain ⟨K2, X2⟩ := app_ok (xs := [5]) (s := 6) (by decide) (by decide)
  obtain ⟨K3, X3⟩ := app_ok (xs := [5, 6]) (s := 7) (by decide) (by decide)
  simp only [List.length_nil, List.length_cons, List.nil_append, List.cons_append, Nat.zero_add, Nat.reduceAdd] at K1 K2 K3 X1 X2 X3
  have HK1 := Lib.hid K1
  have HK2 := Lib.hid K2
  have HK3 := Lib.hid K3
  have HX1 := Lib.hid X1
  have HX2 := Lib.hid X2
  have HX3 := Lib.hid X3
  clear K1 K2 K3 X1 X2 X3
  go_enter Try.func13, Try.ntmps13
  go_wp2_with fail
  refine (PNew_pk _).mono ?_
  rintro _ w1 ⟨rfl, hp1, hb1⟩
  obtain ⟨ob, hob⟩ : ∃ b, b = w.heap.size := ⟨_, rfl⟩
  have HP1 : Hid (Pk w1 w.heap.size ob none []) := by rw [hob]; exact hp1
  rw [← hob]
  clear hp1 hob
  go_wp2_with fail
  refine (Append_any HP1.out hb1.size rfl 5).mono ?_
  rw [show ([] : List Int).length = 0 from rfl, HK1.out, HX1.out]
  rintro _ w2 ⟨rfl, r2, hp2, ht2, _⟩
  have E2 : Ext w w2 := HP1.out.step hb1 (Nat.le_refl _) ht2
  have HP2 := Lib.hid hp2
  clear hp2 ht2
  simp only [errR_0]
  go_wp2_with fail
  refine (Append_any HP2.out E2.size (by decide) 6).mono ?_
  rw [show ([5] : List Int).length = 1 from rfl, HK2.out, HX2.out]
  rintro _ w3 ⟨rfl, r3, hp3, ht3, _⟩
  have E3 : Ext w w3 := HP2.out.step E2 (Nat.le_refl _) ht3
  have HP3 := Lib.hid hp3
  clear hp3 ht3
  simp only [errR_0]
  go_wp2_with fail
  refine (Append_any HP3.out E3.size (by decide) 7).mono ?_
  rw [show ([5, 6] : List Int).length = 2 from rfl, HK3.out, HX3.out]
  rintro _ w4 ⟨rfl, r4, hp4, ht4, _⟩
  have E4 : Ext w w4 := HP3.out.step E3 (Nat.le_refl _) ht4
  have HP4 := Lib.hid hp4
  clear hp4 ht4
  simp only [errR_0]
  go_wp2_with fail
  refine (Parts_any HP4.out (by decide)).mono ?_
  rw [show ([5, 6, 7] : List Int).length = 3 from rfl]
  obtain ⟨z, hz⟩ := partsF_three
  rw [hz, show ([7, z] : List Int).reverse = [z, 7] from rfl]
  rintro _ w5 ⟨⟨v5, rfl, o5⟩, hb5⟩
  have E5 := E4.trans hb5
  obtain ⟨A5, c5, rfl, hc5, R5⟩ := o5.rd
  obtain ⟨ad5, rfl, hb, hcell⟩ := R5.getI (j := 1) (z := 7) rfl
  rw [show ([z, 7] : List Int).length = 2 from rfl] at R5 ⊢
  have hlc5 := R5.2.1
  have hcell' : w5.cell? ⟨ad5.block, ad5.off + 1, none⟩ = some (.int .i64 7) := hcell
  have hms5 : c5 ≤ 9223372036854775807 := by unfold maxLen at hc5; omega
  clear o5 HP1 HP2 HP3 HP4 HK1 HK2 HK3 HX1 HX2 HX3 E2 E3 E4 hb1 hb5 R5
  go_wp2_with fail
  refine (TCheck_any A n c xs _ (hr.ext E5) hm).mono ?_
  rintro _ _ ⟨rfl, rfl⟩
  by_cases hk : leafsOk xs
  · rw [leafsK_ok hk]
    simp only [errR_0]
    have HKK := Lib.hid hk
    clear hk
    go_wp2_with fail
    refine (PNew_pk _).mono ?_
    rintro _ w6 ⟨rfl, hp6, hb6⟩
    obtain ⟨pb, hpb⟩ : ∃ b, b = w5.heap.size := ⟨_, rfl⟩
    rw [← hpb] at hp6 ⊢
    have E6 := E5.trans hb6
    have HP6 := Lib.hid (Pk.lower hp6 (b := w.heap.size) (by rw [hpb]; exact E5.size))
    clear hp6 hpb hb6
    go_wp2_with fail
    refine (PNew_pk _).mono ?_
    rintro _ w7 ⟨rfl, hp7, hb7⟩
    have hsep := Sep.fresh HP6.out hp7
    obtain ⟨qb, hqb⟩ : ∃ b, b = w6.heap.size := ⟨_, rfl⟩
    rw [← hqb] at hp7 hsep ⊢
    have E7 := E6.trans hb7
    have HQ7 := Lib.hid (Pk.lower hp7 (b := w.heap.size) (by rw [hqb]; exact E6.size))
    have HP7 := Lib.hid (HP6.out.ext hb7)
    have HS7 := Lib.hid hsep
    clear hp7 hqb hb7 hsep HP6 E5 E6 hcell hcell' hlc5 hms5 hb hc5
    have hn := HKK.out.1
    rw [HX.out] at hn
    go_wp2_with fail
    go_loopw [8, 9] (fun q x wr => ∃ (j qb : Nat) (rp rq : Option Nat), x = .int .i64 j ∧ q = .pointer (some ⟨qb, 0, none⟩) ∧ j ≤ n ∧ Ext w wr ∧ Hid (Pk wr w.heap.size pb rp (xs.take j)) ∧ Hid (Pk wr w.heap.size qb rq (xs.take j)) ∧ Hid (Sep pb qb rp rq)) (fun _ x _ => n - (intOf x).toNat)
    case atStart => exact ⟨0, qb, none, none, rfl, rfl, Nat.zero_le _, E7, HP7, HQ7, HS7⟩
    case round =>
      obtain ⟨j, qb, rp, rq, rfl, rfl, hj, hbw, HP, HQ, HS⟩ := hrel
      by_cases hc : j < n
      · have hgj := List.getElem?_eq_getElem (l := xs) (i := j) (by rw [HX.out]; exact hc)
        obtain ⟨zz, hzz⟩ : ∃ zz, xs[j]'(by rw [HX.out]; exact hc) = zz := ⟨_, rfl⟩
        rw [hzz] at hgj
        obtain ⟨AN1, AN2⟩ := appX_next hgj HKK.out.2 (by rw [HX.out]; exact hn)
        have HN1 := Lib.hid AN1
        have HN2 := Lib.hid AN2
        have HGJ := Lib.hid hgj
        have HVT := Lib.hid (allV_take HKK.out.2 j)
        have htl : (xs.take j).length = j := by rw [List.length_take, HX.out]; omega
        have HTL := Lib.hid htl
        clear hzz hgj AN1 AN2 htl
        generalize xs.take j = T at *
        obtain ⟨tb, HTB⟩ : ∃ tb : Bool, Hid (tb = decide ((j : Int) = at_)) := ⟨_, rfl⟩
        go_upto_region 14 with (fail)
        go_cut [52] (fun v wc => v = .bool tb ∧ wr = wc)
        case first =>
          as_aux_lemma =>
          have hb := HTB.out
          by_cases hat : (j : Int) = at_
          · rw [decide_eq_true hat] at hb
            subst hb
            have e1 : ((j : Int) == at_) = true := by simp [hat]
            clear hat
            go_wp2_with fail
            go_meet
            exact ⟨rfl, rfl⟩
          · rw [decide_eq_false hat] at hb
            subst hb
            have e1 : ((j : Int) == at_) = false := by simp [hat]
            clear hat
            go_wp2_with fail
            go_meet
            exact ⟨rfl, rfl⟩
        case rest =>
        as_aux_lemma =>
        obtain ⟨rfl, rfl⟩ := hcut
        clear HTB
        go_upto_if 52 with (fail)
        go_cut [8, 10, 11] (fun q _ _ wc => ∃ (qb : Nat) (rq : Option Nat), q = .pointer (some ⟨qb, 0, none⟩) ∧ Ext w wc ∧ Pk wc w.heap.size pb rp T ∧ Pk wc w.heap.size qb rq T ∧ Sep pb qb rp rq)
        case first =>
          as_aux_lemma =>
          cases tb
          · go_wp2_with fail
            go_meet
            exact ⟨qb, rq, rfl, hbw, HP.out, HQ.out, HS.out⟩
          · have hjn : j < 200 := by omega
            have HOF := Lib.hid (ofK_parts HVT.out (by rw [HTL.out]; omega))
            have hplen : (partsF T 0 T.length).reverse.length ≤ 4096 := by
              rw [List.length_reverse, partsF_len T T.length 0 _ (Nat.le_refl _)]
              have := ones_le T.length _ (Nat.le_refl _)
              have := HTL.out
              omega
            obtain ⟨PL, HPL⟩ : ∃ l, Hid ((partsF T 0 T.length).reverse = l) := ⟨_, rfl⟩
            rw [HPL.out, HTL.out] at HOF
            rw [HPL.out] at hplen
            go_wp2_with fail
            refine (HP.out.size).mono ?_
            rw [HTL.out]
            rintro _ _ ⟨rfl, rfl⟩
            go_wp2_with fail
            refine (Parts_any HP.out (by rw [HTL.out]; omega)).mono ?_
            rw [HPL.out]
            rintro _ w8 ⟨⟨v8, rfl, o8⟩, hb8⟩
            obtain ⟨A8, c8, rfl, hc8, R8⟩ := o8.rd
            have E8 := hbw.trans hb8
            clear o8
            go_wp2_with fail
            refine (POf_any (j : Int) A8 _ c8 PL _ R8 hc8).mono ?_
            rintro e w9 ⟨hpost, hb9⟩
            unfold OfPost at hpost
            rw [HOF.out] at hpost
            rcases hpost with ⟨hno, _⟩ | ⟨_, qb', vq, rfl, hq⟩
            · exact absurd rfl hno
            · have hq' : PkS w9 w8.heap.size qb' vq ((T.length : Nat) : Int).toNat ((partsF T 0 T.length).reverse).reverse := by rw [HPL.out, HTL.out]; exact hq
              have hQ := Pk.ofS hq'
              have hS := Sep.fresh (HP.out.ext hb8) hQ
              have hQ2 := Lib.hid (hQ.lower (b := w.heap.size) E8.size)
              have HS2 := Lib.hid hS
              have E9 := E8.trans hb9
              have HP9 := Lib.hid ((HP.out.ext hb8).ext hb9)
              clear hq hq' hQ hS R8
              go_wp2_with fail
              go_meet
              exact ⟨qb', vq.ownBlock, rfl, E9, HP9.out, hQ2.out, HS2.out⟩
        case rest =>
        as_aux_lemma =>
        obtain ⟨qb, rq, rfl, hbw', hPc, hQc, hSc⟩ := hcut
        clear HP HQ HS hbw
        obtain ⟨ad, hA, hb, hcell⟩ := (hr.ext hbw').getI HGJ.out
        subst hA
        have HPc := Lib.hid hPc
        have HQc := Lib.hid hQc
        have HSc := Lib.hid hSc
        clear hPc hQc hSc
        go_wp2_with fail
        refine (Append_any HPc.out hbw'.size HVT.out zz).mono ?_
        rw [HN1.out, HN2.out]
        rintro _ w10 ⟨rfl, rp', hp10, ht10, hr10⟩
        have E10 : Ext w w10 := HPc.out.step hbw' (Nat.le_refl _) ht10
        have HQ10 := Lib.hid (HQc.out.other ht10 HSc.out)
        have HS10 := Lib.hid (HSc.out.next HQc.out hr10)
        have HP10 := Lib.hid hp10
        obtain ⟨ad2, hA2, hb2, hcell2⟩ := (hr.ext E10).getI HGJ.out
        obtain rfl : ad = ad2 := by injection hA2
        clear hp10 ht10 hr10 HPc HQc HSc hA2 hcell
        simp only [errR_0]
        go_wp2_with fail
        refine (Append_any HQ10.out E10.size HVT.out zz).mono ?_
        rw [HN1.out, HN2.out]
        rintro _ w11 ⟨rfl, rq', hq11, ht11, hr11⟩
        have E11 : Ext w w11 := HQ10.out.step E10 (Nat.le_refl _) ht11
        have HP11 := Lib.hid (HP10.out.other ht11 HS10.out.symm)
        have HS11 := Lib.hid ((HS10.out.symm.next HP10.out hr11).symm)
        have HQ11 := Lib.hid hq11
        clear hq11 ht11 hr11 HP10 HQ10 HS10 hcell2
        simp only [errR_0]
        have hj1 : j + 1 ≤ n := hc
        have RT := hr.takeI (k := j + 1) hj1
        have HVN := Lib.hid (allV_take HKK.out.2 (j + 1))
        have HLN : Hid ((xs.take (j + 1)).length ≤ 200) := by show _ ≤ _; rw [List.length_take]; omega
        have i1 : (j : Int) + 1 ≤ (c : Int) := by omega
        obtain ⟨T2, HT2⟩ : ∃ l, Hid (xs.take (j + 1) = l) := ⟨_, rfl⟩
        rw [HT2.out] at RT HVN HLN HP11 HQ11
        go_wp2_with fail
        refine (Root_ok (some ad) (j + 1) c T2 _ (RT.ext E11) hm ⟨HLN.out, HVN.out⟩).mono ?_
        rintro _ w12 ⟨rfl, hb12⟩
        have E12 := E11.trans hb12
        have HP12 := Lib.hid (HP11.out.ext hb12)
        have HQ12 := Lib.hid (HQ11.out.ext hb12)
        go_wp2_with fail
        refine (PRoot_any HP12.out HLN.out HVN.out).mono ?_
        rintro _ w13 ⟨rfl, hb13⟩
        have E13 := E12.trans hb13
        have HP13 := Lib.hid (HP12.out.ext hb13)
        have HQ13 := Lib.hid (HQ12.out.ext hb13)
        go_wp2_with fail
        refine (PRoot_any HQ13.out HLN.out HVN.out).mono ?_
        rintro _ w14 ⟨rfl, hb14⟩
        have E14 := E13.trans hb14
        have HP14 := Lib.hid (HP13.out.ext hb14)
        have HQ14 := Lib.hid (HQ13.out.ext hb14)
        go_wp2_with fail
        go_roundw
        case rel => exact ⟨j + 1, qb, rp', rq', by go_num, rfl, hj1, E14, by rw [HT2.out]; exact HP14.out, by rw [HT2.out]; exact HQ14.out, HS11⟩
        case measure => simp [intOf]; omega
      · obtain rfl : j = n := by omega
        go_wp2_with fail
        refine (HP.out.size).mono ?_
        rw [List.take_of_length_le (by rw [HX.out]; exact Nat.le_refl _), show xs.length = j from HX.out]
        rintro _ _ ⟨rfl, rfl⟩
        go_wp2_with fail
        go_ret
        exact ⟨rfl, hbw⟩
  · rw [errR_ne (leafsK_bad hk)]
    simp only [errV]
    go_wp2_with fail
    go_ret
    exact ⟨rfl, E5⟩
end Go.Proofs.Ytcpnhmjibihpkaa.peaksGrow
