import Derived.Test.YtelcabjhbgkfmaaDoorParse2
import Derived.Test.YtelcabjhbgkfmaaDoorQNode
import Derived.Test.YtelcabjhbgkfmaaDoorError
import Derived.Deep.DeepCutAuto
namespace Go.Proofs.YtelcabjhbgkfmaaDoor.mixTells
open Go.RowKit Go.WideShapes
set_option linter.unusedVariables false
attribute [local go_sem ↓] Go.wp_at_zero Go.wp_at_succ

def okP (a b : Int) : Bool := vld a && vld b
def nkP (a b : Int) : Int := if okP a b = true then 0 else 1
def nbP (a b : Int) : ByteArray := if okP a b = true then ⟨(nodeB a b).toArray⟩ else ⟨#[]⟩
def nvP (a b : Int) : Int := if okP a b = true then nodeL a b else 0
theorem Node_tot (a b : Int) (w : World) : Calls Tryd.prog 15 #[.int .i64 a, .int .i64 b] w fun e w' => e = .returned (.tuple #[.int .i64 (nvP a b), errR (nkP a b)]) ∧ Ext w w' := by
  unfold nvP nkP
  by_cases h : okP a b = true
  · rw [if_pos h, if_pos h]
    have h' := Bool.and_eq_true_iff.1 h
    exact Node_ok a b w h'.1 h'.2
  · rw [if_neg h, if_neg h]
    exact Node_bad a b w fun h' => h (Bool.and_eq_true_iff.2 h')
theorem NodeBytes_tot (a b : Int) (w : World) : Calls Tryd.prog 14 #[.int .i64 a, .int .i64 b] w fun e w' => e = .returned (.tuple #[.string (nbP a b), errR (nkP a b)]) ∧ Ext w w' := by
  unfold nbP nkP
  by_cases h : okP a b = true
  · rw [if_pos h, if_pos h]
    have h' := Bool.and_eq_true_iff.1 h
    exact NodeBytes_ok a b w h'.1 h'.2
  · rw [if_neg h, if_neg h]
    exact NodeBytes_bad a b w fun h' => h (Bool.and_eq_true_iff.2 h')

set_option maxRecDepth 100000 in
set_option maxHeartbeats 4000000 in
theorem walk (s : ByteArray) (a b : Int) (t : ByteArray) (w : World) (z0 : s.size < 140737488355328) (h1 : (Lit.int .i64 a).wf = true) (h2 : (Lit.int .i64 b).wf = true) (z3 : t.size < 140737488355328) (hG : StrG w) (hg : ErrG w) :
    Calls Tryd.prog 4 #[.string s, .int .i64 a, .int .i64 b, .string t] w fun e w' => e = .returned (.bool true) ∧ Ext w w' := by
  obtain ⟨hE, hN, hG0⟩ := errR_rules
  have HG := Lib.hid hG
  have z0' : s.size ≤ 140737488355328 := by omega
  have z3' : t.size ≤ 140737488355328 := by omega
  have hsm : s.size ≤ maxLen := by unfold maxLen; omega
  obtain ⟨nk, HNK⟩ : ∃ k, Hid (nkP a b = k) := ⟨_, rfl⟩
  obtain ⟨nb, HNB⟩ : ∃ k, Hid (nbP a b = k) := ⟨_, rfl⟩
  obtain ⟨nv, HNV⟩ : ∃ k, Hid (nvP a b = k) := ⟨_, rfl⟩
  obtain ⟨pk, HPK⟩ : ∃ k, Hid (prK a = k) := ⟨_, rfl⟩
  obtain ⟨pv, HPV⟩ : ∃ k, Hid (prV a = k) := ⟨_, rfl⟩
  obtain ⟨rk, HRK⟩ : ∃ k, Hid (readK t = k) := ⟨_, rfl⟩
  obtain ⟨rv, HRV⟩ : ∃ k, Hid (readV t = k) := ⟨_, rfl⟩
  obtain ⟨va, HVA⟩ : ∃ k, Hid (vld a = k) := ⟨_, rfl⟩
  obtain ⟨vb, HVB⟩ : ∃ k, Hid (vld b = k) := ⟨_, rfl⟩
  have HC1 := Lib.hid fun W => RValid_any a W
  have HC2 := Lib.hid fun W => RValid_any b W
  rw [HVA.out] at HC1
  rw [HVB.out] at HC2
  clear hG h1 h2
  go_enter Tryd.func4, Tryd.ntmps4
  go_wp2_with fail
  refine (HC1.out _).mono ?_
  rintro _ _ ⟨rfl, rfl⟩
  go_wp2_with fail
  refine (HC2.out _).mono ?_
  rintro _ _ ⟨rfl, rfl⟩
  clear HC1 HC2
  go_upto_region 6 with (fail)
  go_cut [32] (fun v wc => v = .bool (va && vb) ∧ w = wc)
  case first =>
    as_aux_lemma =>
    cases va <;> cases vb
    all_goals
      go_wp2_with fail
      go_meet
      exact ⟨rfl, rfl⟩
  case rest =>
  as_aux_lemma =>
  obtain ⟨rfl, rfl⟩ := hcut
  obtain ⟨tb, htb⟩ : ∃ tb, (va && vb) = tb := ⟨_, rfl⟩
  rw [htb]
  have HTB := Lib.hid htb
  clear htb
  go_upto_if 32 with (fail)
  go_cut [11, 12, 13] (fun x y z wc => x = .int .i64 nk ∧ y = .string nb ∧ z = .int .i64 nv ∧ Ext w wc)
  case first =>
    as_aux_lemma =>
    have HTO : Hid (okP a b = tb) := by show _ = _; unfold okP; rw [HVA.out, HVB.out]; exact HTB.out
    cases tb with
    | true =>
      have hokp : okP a b = true := HTO.out
      have hab := Bool.and_eq_true_iff.1 hokp
      have e1 : nk = 0 := HNK.out.symm.trans (if_pos hokp)
      have e2 : nb = ⟨(nodeB a b).toArray⟩ := HNB.out.symm.trans (if_pos hokp)
      have e3 : nv = nodeL a b := HNV.out.symm.trans (if_pos hokp)
      have HNBC := Lib.hid fun W => RNodeBytes_any a b W hab.1 hab.2
      have hsz : (⟨(nodeB a b).toArray⟩ : ByteArray).size ≤ maxLen := by rw [size_mk, nodeB_len]; unfold maxLen; omega
      have HSC := Lib.hid fun W => RSum_any ⟨(nodeB a b).toArray⟩ W hsz
      have HL : Hid (sumL (⟨(nodeB a b).toArray⟩ : ByteArray).data.toList = nv) := by show _ = _; rw [e3]; simp [nodeL]
      rw [HL.out] at HSC
      subst e1
      rw [← e2] at HNBC HSC
      clear e2 e3 hokp hsz HL hab
      go_wp2_with fail
      refine (HNBC.out _).mono ?_
      rintro _ w1 ⟨rfl, hb1⟩
      go_wp2_with fail
      refine (HSC.out _).mono ?_
      rintro _ _ ⟨rfl, rfl⟩
      go_wp2_with fail
      go_meet
      exact ⟨rfl, rfl, rfl, hb1⟩
    | false =>
      have hokp : ¬ okP a b = true := by rw [HTO.out]; decide
      have e1 : nk = 1 := HNK.out.symm.trans (if_neg hokp)
      have e2 : nb = ⟨#[]⟩ := HNB.out.symm.trans (if_neg hokp)
      have e3 : nv = 0 := HNV.out.symm.trans (if_neg hokp)
      subst e1 e2 e3
      clear hokp
      go_wp2_with fail
      go_meet
      exact ⟨rfl, rfl, rfl, Ext.refl _⟩
  case rest =>
  as_aux_lemma =>
  obtain ⟨rfl, rfl, rfl, e1⟩ := hcut
  have HND := Lib.hid fun W => Node_tot a b W
  have HNB2 := Lib.hid fun W => NodeBytes_tot a b W
  rw [HNV.out, HNK.out] at HND
  rw [HNB.out, HNK.out] at HNB2
  go_wp2_with fail
  refine (HND.out _).mono ?_
  rintro _ w2 ⟨rfl, hb2⟩
  have e2 := e1.trans hb2
  go_wp2_with fail
  refine (Error_is nk _ (hg.ext e2)).mono ?_
  rintro _ w3 ⟨rfl, hb3⟩
  have e3 := e2.trans hb3
  go_wp2_with fail
  refine (HNB2.out _).mono ?_
  rintro _ w4 ⟨rfl, hb4⟩
  have e4 := e3.trans hb4
  go_wp2_with fail
  refine (Error_is nk _ (hg.ext e4)).mono ?_
  rintro _ w5 ⟨rfl, hb5⟩
  have e5 := e4.trans hb5
  obtain ⟨W5, rfl⟩ : ∃ W, W = w5 := ⟨_, rfl⟩
  clear e1 e2 e3 e4 hb2 hb3 hb4 hb5
  go_upto_if 56 with (fail)
  go_cut [11, 19] (fun x y wc => x = .int .i64 pk ∧ y = .string pv ∧ Ext W5 wc)
  case first =>
    as_aux_lemma =>
    cases va with
    | true =>
      have e1 : pk = 0 := HPK.out.symm.trans (if_pos HVA.out)
      have e2 : pv = hexT a.toNat := HPV.out.symm.trans (if_pos HVA.out)
      obtain ⟨q1, q2⟩ := vld_true HVA.out
      obtain ⟨k, hk⟩ := Int.eq_ofNat_of_zero_le q1
      have HT := Lib.hid (RText_any k W5 (by omega))
      have hka : (k : Int) = a := hk.symm
      have hk2 : hexT k = pv := by rw [e2, ← hka, Int.toNat_natCast]
      rw [hk2] at HT
      rw [hka] at HT
      subst e1
      clear e2 q1 q2 hk hka hk2
      go_wp2_with fail
      refine HT.out.mono ?_
      rintro _ w6 ⟨rfl, hb6⟩
      go_wp2_with fail
      go_meet
      exact ⟨rfl, rfl, hb6⟩
    | false =>
      have hn : ¬ vld a = true := by rw [HVA.out]; decide
      have e1 : pk = 1 := HPK.out.symm.trans (if_neg hn)
      have e2 : pv = ⟨#[]⟩ := HPV.out.symm.trans (if_neg hn)
      subst e1 e2
      clear hn
      go_wp2_with fail
      go_meet
      exact ⟨rfl, rfl, Ext.refl _⟩
  case rest =>
  as_aux_lemma =>
  obtain ⟨rfl, rfl, hb6⟩ := hcut
  have e6 := e5.trans hb6
  have HPR := Lib.hid fun W (e : Ext w W) => MPrint_any a W (HG.out.ext e).deb
  rw [HPV.out, HPK.out] at HPR
  go_wp2_with fail
  refine (HPR.out _ e6).mono ?_
  rintro _ w7 ⟨rfl, hb7⟩
  have e7 := e6.trans hb7
  go_wp2_with fail
  refine (Error_is pk _ (hg.ext e7)).mono ?_
  rintro _ w8 ⟨rfl, hb8⟩
  have e8 := e7.trans hb8
  have HRR := Lib.hid fun W => RRead_any t W
  have HMP := Lib.hid fun W (e : Ext w W) => MParse_any t W z3' (HG.out.ext e)
  rw [HRV.out, HRK.out] at HRR HMP
  go_wp2_with fail
  refine (HRR.out _).mono ?_
  rintro _ w9 ⟨rfl, hb9⟩
  have e9 := e8.trans hb9
  go_wp2_with fail
  refine (HMP.out _ e9).mono ?_
  rintro _ w10 ⟨rfl, hb10⟩
  have e10 := e9.trans hb10
  go_wp2_with fail
  refine (Error_is rk _ (hg.ext e10)).mono ?_
  rintro _ w11 ⟨rfl, hb11⟩
  have e11 := e10.trans hb11
  have HS1 := Lib.hid fun W => Sum_any s W hsm
  have HS2 := Lib.hid fun W => RSum_any s W hsm
  have HS3 := Lib.hid fun W => Leaf_any s W z0'
  have HS4 := Lib.hid fun W => RLeaf_any s W z0
  obtain ⟨su, hsu⟩ : ∃ k, sumL s.data.toList = k := ⟨_, rfl⟩
  obtain ⟨le, hle⟩ : ∃ k, leafL s.data.toList = k := ⟨_, rfl⟩
  rw [hsu] at HS1 HS2
  rw [hle] at HS3 HS4
  clear hsu hle HPR HRR HMP HND HNB2
  go_wp2_with fail
  refine (HS1.out _).mono ?_
  rintro _ w12 ⟨rfl, hb12⟩
  have e12 := e11.trans hb12
  go_wp2_with fail
  refine (HS2.out _).mono ?_
  rintro _ _ ⟨rfl, rfl⟩
  go_wp2_with fail
  refine (HS3.out _).mono ?_
  rintro _ w13 ⟨rfl, hb13⟩
  have e13 := e12.trans hb13
  go_wp2_with fail
  refine (HS4.out _).mono ?_
  rintro _ w14 ⟨rfl, hb14⟩
  have e14 := e13.trans hb14
  go_wp2_with fail
  go_ret
  exact ⟨ret_bool (by simp), e14⟩
end Go.Proofs.YtelcabjhbgkfmaaDoor.mixTells
