import Derived.Test.YtnafegofmbhahaaDoorROpen
import Derived.Test.YtnafegofmbhahaaDoorTab8
import Derived.Test.YtnafegofmbhahaaDoorPairsSame
import Derived.Test.YtnafegofmbhahaaDoorError
import Derived.Test.YtnafegofmbhahaaDoorQuiet
import Derived.BigQuiet
import Derived.Deep.DeepCutAuto
import Derived.Deep.CutRange
namespace Go.Proofs.YtnafegofmbhahaaDoor.tableTells
open Go.RowKit Go.WideShapes
set_option linter.unusedVariables false
attribute [local go_sem ↓] Go.wp_at_zero Go.wp_at_succ

theorem kAt_none {es : List Pr} (h : es.length = 0) (i : Nat) : kAt es i = ⟨#[]⟩ := by rw [List.length_eq_zero_iff.1 h]; rfl

set_option maxRecDepth 100000 in
set_option maxHeartbeats 4000000 in
theorem walk (A : Option Addr) (n c : Nat) (l : List Pr) (b key : ByteArray) (w : World) (hx : l.length = n) (m : c ≤ maxLen) (R : Rd w 3 A n c (l.flatMap Pr.cells)) (hn : n ≤ 1048576) (hb : b.size ≤ 1048576) (hg : ErrG w) :
    Calls Tryd.prog 4 #[.slice A n c, .string b, .string key] w fun e w' => e = .returned (.bool true) ∧ Ext w w' := by
  obtain ⟨hE, hN, hG⟩ := errR_rules
  have hms : c ≤ 9223372036854775807 := by unfold maxLen at m; omega
  have HX := Lib.hid hx
  have HR := Lib.hid R
  obtain ⟨kl, HKL⟩ : ∃ k, Hid (tblK l = k) := ⟨_, rfl⟩
  obtain ⟨tr, HTR⟩ : ∃ k, Hid (tabR l = k) := ⟨_, rfl⟩
  have HP := Lib.hid (RSPairs_any A n c l w R m)
  rw [HKL.out] at HP
  clear hx R
  go_enter Tryd.func4, Tryd.ntmps4
  go_wp2_with fail
  refine HP.out.mono ?_
  rintro _ w1 ⟨rfl, e1⟩
  clear HP
  go_upto_if 26 with (fail)
  obtain ⟨kb, hkb⟩ : ∃ kb : Bool, (kl == 0) = kb := ⟨_, rfl⟩
  rw [hkb]
  have HKB := Lib.hid hkb
  clear hkb
  go_cut [8] (fun v wc => v = .string tr ∧ Ext w wc)
  case first =>
    as_aux_lemma =>
    cases kb with
    | true =>
      have hk0 : kl = 0 := by simpa using HKB.out
      have HT := Lib.hid (RTable_any A n c l w1 (HR.out.ext e1) m (by omega) (tblK_zero.1 (HKL.out.trans hk0)).2)
      rw [show tabB l = tr from (if_pos (HKL.out.trans hk0)).symm.trans HTR.out] at HT
      clear hk0
      go_wp2_with fail
      refine HT.out.mono ?_
      rintro _ w2 ⟨rfl, hb2⟩
      go_wp2_with fail
      go_meet
      exact ⟨rfl, e1.trans hb2⟩
    | false =>
      have hk0 : ¬ kl = 0 := by simpa using HKB.out
      have ht : tr = ⟨#[]⟩ := HTR.out.symm.trans (if_neg (by rw [HKL.out]; exact hk0))
      subst ht
      clear hk0
      go_wp2_with fail
      go_meet
      exact ⟨rfl, e1⟩
  case rest =>
  as_aux_lemma =>
  obtain ⟨rfl, e2⟩ := hcut
  have HB := Lib.hid (Build_any A n c l _ (HR.out.ext e2) m (by omega))
  rw [HKL.out, HTR.out] at HB
  clear HKB e1
  go_wp2_with fail
  refine HB.out.mono ?_
  rintro _ w3 ⟨rfl, hb3⟩
  have e3 := e2.trans hb3
  go_wp2_with fail
  refine (Error_is kl _ (hg.ext e3)).mono ?_
  rintro _ w4 ⟨rfl, hb4⟩
  have e4 := e3.trans hb4
  have HO := Lib.hid (ROpen_any b w4 (by omega))
  clear HB e2 e3 hb3 hb4
  go_wp2_with fail
  refine HO.out.mono ?_
  rintro e w5 ⟨⟨es, vm, hop, rfl, om⟩ | ⟨hno, vm, rfl⟩, hb5⟩
  · have e5 := e4.trans hb5
    obtain ⟨ne, hne⟩ : ∃ k, es.length = k := ⟨_, rfl⟩
    have om' := om
    rw [hne] at om'
    obtain ⟨Am, cm, rfl, hcm, Rm, -⟩ := own_rd om'
    have HOP := Lib.hid hop
    have HNE := Lib.hid hne
    have HRM := Lib.hid Rm
    have hasc := (tblK_zero.1 hop.1).1
    have HASC := Lib.hid hasc
    have hlm := Rm.2.1
    have hcm2 : cm ≤ 9223372036854775807 := by unfold maxLen at hcm; omega
    have HOA := Lib.hid (Open_any b w5 (by omega))
    clear om om' hne Rm hasc hop HO
    go_wp2_with fail
    refine HOA.out.mono ?_
    rintro e w6 ⟨⟨es2, tb, v, hop2, rfl, T6, -⟩ | ⟨hno, -⟩, hb6⟩
    · obtain rfl : es2 = es := opn_uniq hop2 HOP.out
      have HT6 := Lib.hid T6
      have e6 := e5.trans hb6
      have HR6 := Lib.hid (HRM.out.ext hb6)
      clear T6 hop2 HOA
      go_wp2_with fail
      refine (Error_is 0 _ (hg.ext e6)).mono ?_
      rintro _ w7 ⟨rfl, hb7⟩
      have e7 := e6.trans hb7
      have HT7 := Lib.hid (HT6.out.ext hb7)
      have HR7 := Lib.hid (HR6.out.ext hb7)
      have HF := Lib.hid (RSFind_any Am ne cm es2 key w7 HR7.out hcm HASC.out)
      obtain ⟨rf, HRF⟩ : ∃ k, Hid (rfK es2 key = k) := ⟨_, rfl⟩
      rw [HRF.out] at HF
      clear HT6 HR6 HRM
      go_wp2_with fail
      refine HF.out.mono ?_
      rintro _ _ ⟨rfl, rfl⟩
      have P8 := Bk.at_ w7 25 #[.string ⟨#[]⟩, .string ⟨#[]⟩, .bool false] w7.heap.size rfl
      have e8 : Ext w7 (w7.alloc (.cells #[.string ⟨#[]⟩, .string ⟨#[]⟩, .bool false] 25)) := (Ext.refl _).alloc _
      obtain ⟨pb, hpb⟩ : ∃ pb, w7.heap.size = pb := ⟨_, rfl⟩
      have hpl : w7.heap.size ≤ pb := Nat.le_of_eq hpb
      have hlt7 : ∀ ad, Am = some ad → 0 < ne → ad.block < w7.heap.size := fun ad h1 h2 => by
        obtain ⟨ad', h3, h4, _⟩ := HR7.out.2.2 h2
        obtain rfl : ad' = ad := by rw [h1] at h3; injection h3 with h3; exact h3.symm
        exact h4
      have HLT7 := Lib.hid hlt7
      clear hlt7 HF
      go_upto_if 80 with (fail)
      generalize w7.alloc (.cells #[.string ⟨#[]⟩, .string ⟨#[]⟩, .bool false] 25) = w8 at *
      rw [hpb] at P8
      try rw [hpb]
      have HP8 := Lib.hid P8
      clear P8
      obtain ⟨rb, hrb⟩ : ∃ rb : Bool, decide (0 ≤ rf) = rb := ⟨_, rfl⟩
      rw [hrb]
      have HRB := Lib.hid hrb
      clear hrb
      obtain ⟨pq, HPQ⟩ : ∃ q, Hid (pairV es2 key = q) := ⟨_, rfl⟩
      obtain ⟨tk, HTK⟩ : ∃ q, Hid (tgK es2 key = q) := ⟨_, rfl⟩
      obtain ⟨qk, qv, qg⟩ := pq
      go_cut [7] (fun v wc => v = .int .i64 tk ∧ Ext w7 wc ∧ Hid (Bk wc pb 25 #[.string qk, .string qv, .bool qg]))
      case first =>
        as_aux_lemma =>
        cases hb9 : hasB es2 key with
        | true =>
          obtain ⟨q, hq, hqk⟩ := has_get hb9
          have hrf : rf = (lowN es2 key : Nat) := HRF.out.symm.trans (if_pos hb9)
          have hq2 : q = ⟨qk, qv, qg⟩ := by
            have h1 := HPQ.out
            unfold pairV getE at h1
            rw [if_pos hb9, hq] at h1
            exact h1
          subst hq2
          have htk : tk = 0 := HTK.out.symm.trans (if_pos hb9)
          subst htk
          have hll := (List.getElem?_eq_some_iff.1 hq).1
          rw [HNE.out] at hll
          obtain rfl : rb = true := by rw [← HRB.out]; exact decide_eq_true (by omega)
          generalize lowN es2 key = lo at *
          subst hrf
          obtain ⟨ad, rfl, hab, y0, y1, y2⟩ := (HR7.out.ext e8).getP hq
          simp only at y0 y1 y2
          have hloI : (lo : Int) < (ne : Int) := by omega
          have hne1 : (ad.add (lo * 3)).block ≠ pb := by
            rw [blk_add]
            have := HLT7.out ad rfl (by omega)
            omega
          have f0 := HP8.out.frozen 0
          have f1 := HP8.out.frozen 1
          have f2 := HP8.out.frozen 2
          have q0 : w8.cell? ⟨pb, 0, none⟩ = some (.string ⟨#[]⟩) := HP8.out.cell 0
          have q1 : w8.cell? ⟨pb, 1, none⟩ = some (.string ⟨#[]⟩) := HP8.out.cell 1
          have q2 : w8.cell? ⟨pb, 2, none⟩ = some (.bool false) := HP8.out.cell 2
          clear hq hqk hb9
          go_wp2_with fail
          go_meet
          exact ⟨rfl, ((e8.setCell (p := ⟨pb, 0, none⟩) hpl (.string qk)).setCell (p := ⟨pb, 1, none⟩) hpl (.string qv)).setCell (p := ⟨pb, 2, none⟩) hpl (.bool qg), ((HP8.out.set_ 0 (.string qk)).set_ 1 (.string qv)).set_ 2 (.bool qg)⟩
        | false =>
          have hrf : rf = -1 := HRF.out.symm.trans (if_neg (by rw [hb9]; decide))
          have hq2 : (⟨⟨#[]⟩, ⟨#[]⟩, false⟩ : Pr) = ⟨qk, qv, qg⟩ := by
            have h1 := HPQ.out
            unfold pairV getE at h1
            rw [if_neg (by rw [hb9]; decide)] at h1
            exact h1
          injection hq2 with h1 h2 h3
          subst h1 h2 h3
          have htk : tk = 5 := HTK.out.symm.trans (if_neg (by rw [hb9]; decide))
          subst htk
          obtain rfl : rb = false := by rw [← HRB.out, hrf]; rfl
          subst hrf
          clear hb9
          go_wp2_with fail
          go_meet
          exact ⟨rfl, e8, HP8⟩
      case rest =>
      as_aux_lemma =>
      obtain ⟨rfl, e9, HB9⟩ := hcut
      have e9w := e7.trans e9
      have HT9 := Lib.hid (HT7.out.ext e9)
      have HR9 := Lib.hid (HR7.out.ext e9)
      have HG := Lib.hid (TGet_any _ tb v es2 key _ HT9.out)
      rw [HPQ.out, HTK.out] at HG
      have hpv : (⟨qk, qv, qg⟩ : Pr).val = Value.agg #[.string qk, .string qv, .bool qg] := rfl
      rw [hpv] at HG
      clear HRB HP8 e8 hpl hpb hpv HT7 HR7
      go_wp2_with fail
      refine HG.out.mono ?_
      rintro _ w10 ⟨rfl, hb10⟩
      have P11 := Bk.at_ w10 25 #[.string qk, .string qv, .bool qg] w10.heap.size rfl
      have e11 : Ext w10 (w10.alloc (.cells #[.string qk, .string qv, .bool qg] 25)) := (Ext.refl _).alloc _
      have HB11 := Lib.hid ((HB9.out.ext hb10).ext e11)
      have HT11 := Lib.hid ((HT9.out.ext hb10).ext e11)
      have HR11 := Lib.hid ((HR9.out.ext hb10).ext e11)
      have e11w := (e9w.trans hb10).trans e11
      go_upto_region 22 with (fail)
      generalize w10.alloc (.cells #[.string qk, .string qv, .bool qg] 25) = w11 at *
      obtain ⟨p18, hp18⟩ : ∃ p, w10.heap.size = p := ⟨_, rfl⟩
      rw [hp18] at P11
      try rw [hp18]
      have HP11 := Lib.hid P11
      clear P11 hp18 HG
      go_wp2_with fail
      refine (Error_is tk _ (hg.ext e11w)).mono ?_
      rintro _ w12 ⟨rfl, hb12⟩
      have e12 := e11w.trans hb12
      have HB12 := Lib.hid (HB11.out.ext hb12)
      have HP12 := Lib.hid (HP11.out.ext hb12)
      have HT12 := Lib.hid (HT11.out.ext hb12)
      have HR12 := Lib.hid (HR11.out.ext hb12)
      obtain ⟨fk, HFK⟩ : ∃ q, Hid (kAt es2 0 = q) := ⟨_, rfl⟩
      obtain ⟨lk, HLK⟩ : ∃ q, Hid (kAt es2 (ne - 1) = q) := ⟨_, rfl⟩
      clear e11 hb10 HB9 HT9 HR9 HB11 HT11 HR11 HP11
      go_upto_if 96 with (fail)
      go_cut [20, 21] (fun x y wc => x = .string fk ∧ y = .string lk ∧ Ext w12 wc)
      case first =>
        as_aux_lemma =>
        by_cases h0 : ne = 0
        · have h1 : fk = ⟨#[]⟩ := HFK.out.symm.trans (kAt_none (HNE.out.trans h0) _)
          have h2 : lk = ⟨#[]⟩ := HLK.out.symm.trans (kAt_none (HNE.out.trans h0) _)
          subst h1 h2 h0
          go_wp2_with fail
          go_meet
          exact ⟨rfl, rfl, Ext.refl _⟩
        · have h0i : (0 : Int) < (ne : Int) := by omega
          have h0n : 0 < ne := by omega
          obtain ⟨p, hp⟩ : ∃ p, es2[0]? = some p := ⟨_, List.getElem?_eq_getElem (by rw [HNE.out]; omega)⟩
          obtain ⟨q, hq⟩ : ∃ q, es2[ne - 1]? = some q := ⟨_, List.getElem?_eq_getElem (by rw [HNE.out]; omega)⟩
          obtain ⟨ad, rfl, hab, c0, c1, c2⟩ := HR12.out.getP hp
          obtain ⟨ad', e', -, d0, d1, d2⟩ := HR12.out.getP hq
          obtain rfl : ad = ad' := by injection e'
          have hf : fk = p.key := HFK.out.symm.trans (kAt_some hp)
          have hk : lk = q.key := HLK.out.symm.trans (kAt_some hq)
          obtain ⟨i, hi⟩ : ∃ i, ne - 1 = i := ⟨_, rfl⟩
          rw [hi] at d0
          have w1 : IntKind.i64.wrap ((ne : Int) - 1) = (i : Int) := by rw [IntWalk.i64_in _ (by omega)]; omega
          have iI : (i : Int) < (ne : Int) := by omega
          have iN : i < ne := by omega
          have x0 : w12.cell? ad = some (.string fk) := by
            have h0 : ad.add (0 * 3) = ad := by cases ad; rfl
            rw [h0] at c0
            rw [hf]; exact c0
          rw [← hk] at d0
          clear c0 c1 c2 d1 d2 hp hq hf hk hi e' h0
          go_wp2_with fail
          go_meet
          exact ⟨rfl, rfl, Ext.refl _⟩
      case rest =>
      as_aux_lemma =>
      obtain ⟨rfl, rfl, e13⟩ := hcut
      have e13w := e12.trans e13
      have HT13 := Lib.hid (HT12.out.ext e13)
      have HA := Lib.hid (TAll_any _ tb v es2 _ HT13.out)
      rw [HNE.out] at HA
      have hne200 : ne ≤ 200000000 := by rw [← HNE.out]; exact HT13.out.len
      go_wp2_with fail
      refine HA.out.mono ?_
      rintro _ w14 ⟨⟨v14, rfl, o14⟩, hb14⟩
      obtain ⟨A14, c14, rfl, -, R14, -⟩ := own_rd o14
      have HPC := Lib.hid (Pairs_same A14 Am ne c14 cm es2 w14 R14 ((HR12.out.ext e13).ext hb14) (by omega))
      clear o14 R14 HA
      go_wp2_with fail
      refine HPC.out.mono ?_
      rintro _ w15 ⟨rfl, hb15⟩
      have e15 := (e13w.trans hb14).trans hb15
      have e12x := (e13.trans hb14).trans hb15
      have HT15 := Lib.hid ((HT13.out.ext hb14).ext hb15)
      have HB15 := Lib.hid (HB12.out.ext e12x)
      have HP15 := Lib.hid (HP12.out.ext e12x)
      have ca0 : w15.cell? ⟨pb, 0, none⟩ = some (.string qk) := HB15.out.cell 0
      have ca1 : w15.cell? ⟨pb, 1, none⟩ = some (.string qv) := HB15.out.cell 1
      have ca2 : w15.cell? ⟨pb, 2, none⟩ = some (.bool qg) := HB15.out.cell 2
      have cb0 : w15.cell? ⟨p18, 0, none⟩ = some (.string qk) := HP15.out.cell 0
      have cb1 : w15.cell? ⟨p18, 1, none⟩ = some (.string qv) := HP15.out.cell 1
      have cb2 : w15.cell? ⟨p18, 2, none⟩ = some (.bool qg) := HP15.out.cell 2
      have HFI := Lib.hid (TFirst_any _ tb v es2 w15 HT15.out)
      rw [HFK.out] at HFI
      go_wp2_with fail
      refine HFI.out.mono ?_
      rintro _ w16 ⟨rfl, hb16⟩
      have HLA := Lib.hid (TLast_any _ tb v es2 w16 (HT15.out.ext hb16))
      rw [HNE.out, HLK.out] at HLA
      go_wp2_with fail
      refine HLA.out.mono ?_
      rintro _ w17 ⟨rfl, hb17⟩
      go_wp2_with fail
      go_ret
      exact ⟨rfl, (e15.trans hb16).trans hb17⟩
    · exact absurd HOP.out (hno es)
  · have e5 := e4.trans hb5
    have HNO := Lib.hid hno
    have HOA := Lib.hid (Open_any b w5 (by omega))
    clear hno HO
    go_wp2_with fail
    refine HOA.out.mono ?_
    rintro e w6 ⟨⟨es2, tb, v, hop2, -⟩ | ⟨-, rfl⟩, hb6⟩
    · exact absurd hop2 (HNO.out es2)
    · have e6 := e5.trans hb6
      go_wp2_with fail
      refine (Error_is 2 _ (hg.ext e6)).mono ?_
      rintro _ w7 ⟨rfl, hb7⟩
      go_wp2_with fail
      go_ret
      exact ⟨rfl, e6.trans hb7⟩
end Go.Proofs.YtnafegofmbhahaaDoor.tableTells
