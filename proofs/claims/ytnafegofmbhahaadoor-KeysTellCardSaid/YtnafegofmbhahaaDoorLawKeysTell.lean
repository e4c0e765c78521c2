import Derived.Test.YtnafegofmbhahaaDoorRKeys3
import Derived.Test.YtnafegofmbhahaaDoorRRows
import Derived.Test.YtnafegofmbhahaaDoorKeysPure
import Derived.Test.YtnafegofmbhahaaDoorError
import Derived.Deep.DeepCutAuto
namespace Go.Proofs.YtnafegofmbhahaaDoor.keysTell
open Go.RowKit Go.WideShapes
set_option linter.unusedVariables false
attribute [local go_sem ↓] Go.wp_at_zero Go.wp_at_succ

/-- the rows of whatever pairs -/
theorem rows_tot {A : Option Addr} {n c : Nat} {es : List Pr} {w : World} (hr : Rd w 3 A n c (es.flatMap Pr.cells)) (hm : c ≤ maxLen) :
    Calls Tryd.prog 24 #[.slice A n c] w fun e w' => ∃ v, e = .returned (.tuple #[v, .int .i64 (treeK es)]) ∧ (treeK es = 0 → RowsAt w' w.heap.size v es) ∧ Ext w w' := by
  refine (RRows_any A n c es w hr hm).mono ?_
  rintro e w' ⟨⟨h, rfl⟩ | ⟨h, v, rfl, hv⟩, hb⟩
  · exact ⟨_, rfl, fun h0 => absurd h0 h, hb⟩
  · exact ⟨v, by rw [h], fun _ => hv, hb⟩

set_option maxRecDepth 100000 in
set_option maxHeartbeats 4000000 in
theorem walk (A : Option Addr) (n c : Nat) (es : List Pr) (key : ByteArray) (root : Int) (value : ByteArray) (there : Bool) (A' : Option Addr) (n' c' : Nat) (p : List Int) (w : World)
    (hx : es.length = n) (m : c ≤ maxLen) (R : Rd w 3 A n c (es.flatMap Pr.cells)) (hgd : ∀ y ∈ es, y.good) (z1 : key.size ≤ 140737488355328) (h2 : igood root) (z3 : value.size ≤ 140737488355328)
    (hx' : p.length = n') (m' : c' ≤ maxLen) (R' : Rd w 1 A' n' c' (p.map (Value.int .i64))) (hgd' : ∀ y ∈ p, igood y) (hg : ErrG w) :
    Calls Tryd.prog 5 #[.slice A n c, .string key, .int .i64 root, .string value, .bool there, .slice A' n' c'] w fun e w' => e = .returned (.bool true) ∧ Ext w w' := by
  obtain ⟨hE, hN, hG⟩ := errR_rules
  have hms : c ≤ 9223372036854775807 := by unfold maxLen at m; omega
  have hms' : c' ≤ 9223372036854775807 := by unfold maxLen at m'; omega
  have hsm : key.size ≤ maxLen := by unfold maxLen; omega
  have HX := Lib.hid hx
  have HX' := Lib.hid hx'
  have HR := Lib.hid R
  have HR' := Lib.hid R'
  have HL' := Lib.hid R'.2.1
  obtain ⟨tk, HTK⟩ : ∃ k, Hid (treeK es = k) := ⟨_, rfl⟩
  obtain ⟨rt, HRT⟩ : ∃ k, Hid (krootV es = k) := ⟨_, rfl⟩
  obtain ⟨fk, HFK⟩ : ∃ k, Hid (keyK key = k) := ⟨_, rfl⟩
  obtain ⟨pk, HPK⟩ : ∃ k, Hid (kprK es key = k) := ⟨_, rfl⟩
  obtain ⟨pl, HPL⟩ : ∃ k, Hid (kprL es key = k) := ⟨_, rfl⟩
  obtain ⟨bt, HBT⟩ : ∃ k, Hid (bitsR key = k) := ⟨_, rfl⟩
  obtain ⟨ck, HCK⟩ : ∃ k, Hid (kchkK root key value there p = k) := ⟨_, rfl⟩
  have HP := Lib.hid (rows_tot R m)
  rw [HTK.out] at HP
  clear hx hx' R R' hgd hgd'
  go_enter Tryd.func5, Tryd.ntmps5
  go_wp2_with fail
  refine HP.out.mono ?_
  rintro _ w1 ⟨v, rfl, hv, e1⟩
  have HV := Lib.hid hv
  clear HP hv
  go_upto_if 37 with (fail)
  obtain ⟨kb, hkb⟩ : ∃ kb : Bool, (tk == 0) = kb := ⟨_, rfl⟩
  rw [hkb]
  have HKB := Lib.hid hkb
  clear hkb
  go_cut [15] (fun v wc => v = .int .i64 rt ∧ w1 = wc)
  case first =>
    as_aux_lemma =>
    cases kb with
    | true =>
      have hk0 : tk = 0 := by simpa using HKB.out
      have hrt : rt = rowF es 8 0 := by rw [← HRT.out]; exact if_pos (HTK.out.trans hk0)
      obtain ⟨g, c1, gb, cb, rfl, hc1, h9, hb, hcells, hrows⟩ := (HV.out hk0).get
      have c8 := hcells 8 (Nat.le_refl _)
      have r8 := (hrows 8 (Nat.le_refl _)).cell (i := 0) (by decide)
      rw [← hrt] at r8
      clear hcells hrows hk0 hrt
      unfold maxLen at hc1
      go_wp2_with fail
      go_meet
      exact ⟨rfl, rfl⟩
    | false =>
      have hk0 : ¬ tk = 0 := by simpa using HKB.out
      have ht : rt = 0 := HRT.out.symm.trans (if_neg (by rw [HTK.out]; exact hk0))
      subst ht
      clear hk0
      go_wp2_with fail
      go_meet
      exact ⟨rfl, rfl⟩
  case rest =>
  as_aux_lemma =>
  obtain ⟨rfl, rfl⟩ := hcut
  have HRO := Lib.hid (KRoot_any A n c es _ (HR.out.ext e1) m)
  rw [HRT.out, HTK.out] at HRO
  go_wp2_with fail
  refine HRO.out.mono ?_
  rintro _ w2 ⟨rfl, hb2⟩
  clear HRO
  have e2 := e1.trans hb2
  go_wp2_with fail
  refine (Error_is tk _ (hg.ext e2)).mono ?_
  rintro _ w3 ⟨rfl, hb3⟩
  have e3 := e2.trans hb3
  have b3 := hb2.trans hb3
  have HSK := Lib.hid (RSKey_any key w3)
  rw [HFK.out] at HSK
  go_wp2_with fail
  refine HSK.out.mono ?_
  rintro _ _ ⟨rfl, rfl⟩
  clear HSK hb2 hb3 e2
  go_upto_if 54 with (fail)
  rw [HKB.out]
  go_cut [14] (fun v wc => v = .int .i64 pk ∧ w3 = wc)
  case first =>
    as_aux_lemma =>
    cases kb with
    | true =>
      have hk0 : tk = 0 := by simpa using HKB.out
      have hrt : pk = fk := by rw [← HPK.out, ← HFK.out]; exact kprK_key (HTK.out.trans hk0)
      subst hrt
      clear hk0
      go_wp2_with fail
      go_meet
      exact ⟨rfl, rfl⟩
    | false =>
      have hk0 : ¬ tk = 0 := by simpa using HKB.out
      have ht : pk = tk := by rw [← HPK.out, ← HTK.out]; exact kprK_tree _ (by rw [HTK.out]; exact hk0)
      subst ht
      clear hk0
      go_wp2_with fail
      go_meet
      exact ⟨rfl, rfl⟩
  case rest =>
  as_aux_lemma =>
  obtain ⟨rfl, rfl⟩ := hcut
  go_upto_if 57 with (fail)
  obtain ⟨pb, hpb⟩ : ∃ kb : Bool, (pk == 0) = kb := ⟨_, rfl⟩
  rw [hpb]
  have HPB := Lib.hid hpb
  clear hpb
  go_cut [20] (fun v wc => OwnN w3 wc v pl ∧ Ext w3 wc)
  case first =>
    as_aux_lemma =>
    cases pb with
    | true =>
      have hk0 : pk = 0 := by simpa using HPB.out
      have hk1 := HPK.out.trans hk0
      have htk : treeK es = 0 := Decidable.byContradiction fun h => h (by rw [← kprK_tree key h]; exact hk1)
      have hpl : pl = proofL es (plcN key) 8 := HPL.out.symm.trans (kprL_ok hk1)
      have hbs := RBeside_any v es key w.heap.size w3 ((HV.out (HTK.out.symm.trans htk)).ext b3) hsm
      rw [← hpl] at hbs
      have HBS := Lib.hid hbs
      clear hk0 hk1 htk hpl hbs
      go_wp2_with fail
      refine HBS.out.mono ?_
      rintro _ w4 ⟨⟨q, rfl, o4⟩, hb4⟩
      go_wp2_with fail
      go_meet
      exact ⟨o4, hb4⟩
    | false =>
      have hk0 : ¬ pk = 0 := by simpa using HPB.out
      have ht : pl = [] := HPL.out.symm.trans (kprL_no (by rw [HPK.out]; exact hk0))
      subst ht
      clear hk0
      go_wp2_with fail
      go_meet
      exact ⟨OwnN.nil _ _, Ext.refl _⟩
  case rest =>
  as_aux_lemma =>
  obtain ⟨own4, hb4⟩ := hcut
  obtain ⟨A4, c4, rfl, hc4, R4⟩ := own4.rd
  have HR4 := Lib.hid R4
  have e4 := e3.trans hb4
  have HKP := Lib.hid (KProve_any A n c es key _ (HR.out.ext e4) m)
  rw [HPK.out, HPL.out] at HKP
  obtain ⟨nl, HNL⟩ : ∃ k, Hid (pl.length = k) := ⟨_, rfl⟩
  rw [HNL.out] at HR4 ⊢
  clear own4 R4 HPB HV b3
  go_wp2_with fail
  refine HKP.out.mono ?_
  rintro _ w5 ⟨⟨q, rfl, own5⟩, hb5⟩
  obtain ⟨A5, c5, rfl, hc5, R5⟩ := own5.rd
  have HR5 := Lib.hid R5
  rw [HNL.out] at HR5 ⊢
  clear own5 R5 HKP
  have e5 := e4.trans hb5
  go_wp2_with fail
  refine (Error_is pk _ (hg.ext e5)).mono ?_
  rintro _ w6 ⟨rfl, hb6⟩
  have e6 := e5.trans hb6
  have b6 := hb5.trans hb6
  go_wp2_with fail
  refine (Ints_any A5 A4 nl nl c5 c4 pl pl _ (HR5.out.ext hb6) (HR4.out.ext b6) hc5 hc4).mono ?_
  rw [sameB_self]
  rintro _ w7 ⟨rfl, hb7⟩
  have e7 := e6.trans hb7
  obtain ⟨W7, rfl⟩ : ∃ W, W = w7 := ⟨_, rfl⟩
  clear hb4 hb5 hb6 hb7 b6 HR4 HR5
  go_upto_if 74 with (fail)
  obtain ⟨fb, hfb⟩ : ∃ kb : Bool, (fk == 0) = kb := ⟨_, rfl⟩
  rw [hfb]
  have HFB := Lib.hid hfb
  clear hfb
  go_cut [24] (fun v wc => v = .string bt ∧ Ext W7 wc)
  case first =>
    as_aux_lemma =>
    cases fb with
    | true =>
      have hk0 : fk = 0 := by simpa using HFB.out
      have hbt : bitsS (plcN key) = bt := by rw [← HBT.out]; exact (bitsR_ok (HFK.out.trans hk0)).symm
      have HBS := Lib.hid (RBits_any key W7 hsm)
      rw [hbt] at HBS
      clear hk0 hbt
      go_wp2_with fail
      refine HBS.out.mono ?_
      rintro _ w8 ⟨rfl, hb8⟩
      go_wp2_with fail
      go_meet
      exact ⟨rfl, hb8⟩
    | false =>
      have hk0 : ¬ fk = 0 := by simpa using HFB.out
      have ht : bt = ⟨#[]⟩ := HBT.out.symm.trans (if_neg (by rw [HFK.out]; exact hk0))
      subst ht
      clear hk0
      go_wp2_with fail
      go_meet
      exact ⟨rfl, Ext.refl _⟩
  case rest =>
  as_aux_lemma =>
  obtain ⟨rfl, hb8⟩ := hcut
  have e8 := e7.trans hb8
  have HBI := Lib.hid (Bits_any key W7)
  go_wp2_with fail
  refine (Bits_any key _).mono ?_
  rw [HBT.out, HFK.out]
  rintro _ w9 ⟨rfl, hb9⟩
  have e9 := e8.trans hb9
  go_wp2_with fail
  refine (Error_is fk _ (hg.ext e9)).mono ?_
  rintro _ w10 ⟨rfl, hb10⟩
  have e10 := e9.trans hb10
  go_wp2_with fail
  refine (RValid_any root _).mono ?_
  rintro _ _ ⟨rfl, rfl⟩
  have HRA := Lib.hid (RAll_any A' n' c' p _ (HR'.out.ext e10) m')
  obtain ⟨vr, HVR⟩ : ∃ b, Hid (vld root = b) := ⟨_, rfl⟩
  obtain ⟨va, HVA⟩ : ∃ b, Hid (allV p = b) := ⟨_, rfl⟩
  rw [HVA.out] at HRA
  rw [HVR.out]
  go_wp2_with fail
  refine HRA.out.mono ?_
  rintro _ _ ⟨rfl, rfl⟩
  obtain ⟨W10, rfl⟩ : ∃ W, W = w10 := ⟨_, rfl⟩
  clear HRA hb8 hb9 hb10 e7 e8 e9
  go_upto_if 91 with (fail)
  go_cut [14, 29] (fun v s wc => v = .int .i64 ck ∧ Ext W10 wc)
  case first =>
    as_aux_lemma =>
    have hck := HCK.out
    unfold kchkK at hck
    rw [HVR.out] at hck
    cases vr with
    | false =>
      rw [if_pos rfl] at hck
      subst hck
      clear HCK
      go_wp2_with fail
      go_meet
      exact ⟨rfl, Ext.refl _⟩
    | true =>
    rw [if_neg (by decide), HFK.out] at hck
    cases fb with
    | false =>
      have hk0 : ¬ fk = 0 := by simpa using HFB.out
      rw [if_pos hk0] at hck
      subst hck
      have hfb := HFB.out
      clear HCK hk0
      go_wp2_with fail
      go_meet
      exact ⟨rfl, Ext.refl _⟩
    | true =>
    have hk0 : fk = 0 := by simpa using HFB.out
    rw [if_neg (not_not_intro hk0)] at hck
    subst hk0
    by_cases h5 : 200 < value.size
    · rw [if_pos h5] at hck
      subst hck
      clear HCK
      go_wp2_with fail
      go_meet
      exact ⟨rfl, Ext.refl _⟩
    rw [if_neg h5, HX'.out] at hck
    by_cases h6 : n' = 8
    · subst h6
      by_cases h7 : there = false ∧ value.size ≠ 0
      · rw [if_pos (.inr h7)] at hck
        subst hck
        obtain ⟨rfl, h8⟩ := h7
        obtain ⟨q1, q2⟩ := str_someP (Nat.pos_of_ne_zero h8)
        clear HCK
        go_wp2_with fail
        go_meet
        exact ⟨rfl, Ext.refl _⟩
      · rw [if_neg (by intro h; rcases h with h | h; exact h rfl; exact h7 h), HVA.out] at hck
        cases va with
        | false =>
          rw [if_pos rfl] at hck
          subst hck
          clear HCK
          cases there with
          | true =>
            go_wp2_with fail
            go_meet
            exact ⟨rfl, Ext.refl _⟩
          | false =>
            obtain rfl := str_noneP (Decidable.byContradiction fun h => h7 ⟨rfl, h⟩)
            go_wp2_with fail
            go_meet
            exact ⟨rfl, Ext.refl _⟩
        | true =>
          rw [if_neg (by decide)] at hck
          have HKR := fun (s : Int) (wx : World) (hs : vld s = true) (hb : Ext W10 wx) => RKeyRoot_any key s A' 8 c' p wx (HR'.out.ext (e10.trans hb)) m' hsm hs HVA.out
          have HLF := fun (wx : World) => RLeaf_any ⟨#[]⟩ wx (by decide)
          have HLE : Hid (leafL (⟨#[]⟩ : ByteArray).data.toList = leE) := rfl
          rw [HLE.out] at HLF
          cases there with
          | true =>
            rw [if_pos rfl] at hck
            have hks : key.size ≤ 200 := (keyK_zero.1 HFK.out).2
            have HPD := fun (wx : World) => RPlaced_any key value wx hks (by omega)
            have hvl := vld_kleaf key value
            generalize kleaf key value = kf at *
            generalize leE = le at *
            obtain ⟨u, HU⟩ : ∃ u, upKV (plcN key) kf p = u := ⟨_, rfl⟩
            rw [HU] at hck
            have HKR2 := fun (wx : World) (hb : Ext W10 wx) => HKR kf wx hvl hb
            rw [HU] at HKR2
            have H1 := Lib.hid HLF
            have H2 := Lib.hid HPD
            have H3 := Lib.hid HKR2
            have H4 := Lib.hid hck
            clear HLF HPD HKR2 HKR hck HU hvl HCK h7
            go_wp2_with fail
            refine (H1.out _).mono ?_
            rintro _ w11 ⟨rfl, hb11⟩
            go_wp2_with fail
            refine (H2.out _).mono ?_
            rintro _ w12 ⟨rfl, hb12⟩
            have e12 := hb11.trans hb12
            go_wp2_with fail
            refine (H3.out _ e12).mono ?_
            rintro _ w13 ⟨rfl, hb13⟩
            have e13 := e12.trans hb13
            by_cases hr2 : u = root
            · have h9 : ck = 0 := H4.out.symm.trans (if_pos hr2)
              subst h9 hr2
              clear H4
              go_wp2_with fail
              go_meet
              exact ⟨rfl, e13⟩
            · have h9 : ck = 8 := H4.out.symm.trans (if_neg hr2)
              have z1 : (u == root) = false := by simp [hr2]
              subst h9
              clear H4
              go_wp2_with fail
              go_meet
              exact ⟨rfl, e13⟩
          | false =>
            obtain rfl := str_noneP (Decidable.byContradiction fun h => h7 ⟨rfl, h⟩)
            rw [if_neg (by decide)] at hck
            have hvl := vld_leE
            generalize leE = kf at *
            obtain ⟨u, HU⟩ : ∃ u, upKV (plcN key) kf p = u := ⟨_, rfl⟩
            rw [HU] at hck
            have HKR2 := fun (wx : World) (hb : Ext W10 wx) => HKR kf wx hvl hb
            rw [HU] at HKR2
            have H1 := Lib.hid HLF
            have H3 := Lib.hid HKR2
            have H4 := Lib.hid hck
            clear HLF HKR2 HKR hck HU hvl HCK h7
            go_wp2_with fail
            refine (H1.out _).mono ?_
            rintro _ w11 ⟨rfl, hb11⟩
            go_wp2_with fail
            refine (H3.out _ hb11).mono ?_
            rintro _ w13 ⟨rfl, hb13⟩
            have e13 := hb11.trans hb13
            by_cases hr2 : u = root
            · have h9 : ck = 0 := H4.out.symm.trans (if_pos hr2)
              subst h9 hr2
              clear H4
              go_wp2_with fail
              go_meet
              exact ⟨rfl, e13⟩
            · have h9 : ck = 8 := H4.out.symm.trans (if_neg hr2)
              have z1 : (u == root) = false := by simp [hr2]
              subst h9
              clear H4
              go_wp2_with fail
              go_meet
              exact ⟨rfl, e13⟩
    · rw [if_pos (.inl h6)] at hck
      subst hck
      have h6' : ¬ (n' : Int) = 8 := by omega
      clear HCK h6
      go_wp2_with fail
      go_meet
      exact ⟨rfl, Ext.refl _⟩
  case rest =>
  as_aux_lemma =>
  obtain ⟨rfl, hb11⟩ := hcut
  have e11 := e10.trans hb11
  have HCC := Lib.hid (KCheck_any root key value there A' n' c' p _ (HR'.out.ext e11) m')
  rw [HCK.out] at HCC
  go_wp2_with fail
  refine HCC.out.mono ?_
  rintro _ w12 ⟨rfl, hb12⟩
  have e12 := e11.trans hb12
  clear HCC
  go_wp2_with fail
  refine (Error_is ck _ (hg.ext e12)).mono ?_
  rintro _ w13 ⟨rfl, hb13⟩
  have e13 := e12.trans hb13
  go_wp2_with fail
  go_ret
  exact ⟨ret_bool (by simp), e13⟩
end Go.Proofs.YtnafegofmbhahaaDoor.keysTell
