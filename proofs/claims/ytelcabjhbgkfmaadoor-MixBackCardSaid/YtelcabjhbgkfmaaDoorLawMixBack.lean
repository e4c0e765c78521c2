import Derived.Test.YtelcabjhbgkfmaaDoorParse2
import Derived.Test.YtelcabjhbgkfmaaDoorQNode
import Derived.Deep.DeepCutAuto
namespace Go.Proofs.YtelcabjhbgkfmaaDoor.mixBack
open Go.RowKit Go.WideShapes
set_option linter.unusedVariables false
attribute [local go_sem ↓] Go.wp_at_zero Go.wp_at_succ

def okP (a b : Int) : Bool := vld a && vld b
def nkP (a b : Int) : Int := if okP a b = true then 0 else 1
def nbP (a b : Int) : ByteArray := if okP a b = true then ⟨(nodeB a b).toArray⟩ else ⟨#[]⟩
theorem NodeBytes_tot (a b : Int) (w : World) : Calls Tryd.prog 14 #[.int .i64 a, .int .i64 b] w fun e w' => e = .returned (.tuple #[.string (nbP a b), errR (nkP a b)]) ∧ Ext w w' := by
  unfold nbP nkP
  by_cases h : okP a b = true
  · rw [if_pos h, if_pos h]
    have h' := Bool.and_eq_true_iff.1 h
    exact NodeBytes_ok a b w h'.1 h'.2
  · rw [if_neg h, if_neg h]
    exact NodeBytes_bad a b w fun h' => h (Bool.and_eq_true_iff.2 h')
theorem fact255 : prV 255 = ⟨#[48, 48, 48, 48, 48, 48, 102, 102]⟩ ∧ prK 255 = 0 := by
  have hv : vld (255 : Int) = true := by decide
  refine ⟨?_, if_pos hv⟩
  unfold prV
  rw [if_pos hv]
  decide +kernel
theorem print_vld {n : Int} (h : vld n = true) : prV n = hexT n.toNat ∧ prK n = 0 := ⟨if_pos h, if_pos h⟩
/-- a sum is read as it was written -/
theorem back_sum {n : Int} (h : vld n = true) : readV (prV n) = n ∧ readK (prV n) = 0 ∧ (prV n).size = 8 := by
  obtain ⟨h1, h2⟩ := vld_true h
  obtain ⟨k, rfl⟩ := Int.eq_ofNat_of_zero_le h1
  rw [(print_vld h).1, Int.toNat_natCast]
  have hr := readH_hexT (n := k) (by omega)
  obtain ⟨e1, e2⟩ := (readK_some hr).1 h
  exact ⟨e1, e2, lowHex_size k 8⟩
/-- a text that is read is written so -/
theorem back_text {t : ByteArray} (h : readK t = 0) : prV (readV t) = t ∧ prK (readV t) = 0 := by
  cases hr : readH t with
  | none => rw [(read_none hr).2] at h; cases h
  | some M =>
    cases hv : vld (M : Int) with
    | false => rw [((readK_some hr).2 hv).2] at h; cases h
    | true =>
      rw [((readK_some hr).1 hv).1, (print_vld hv).1, (print_vld hv).2, Int.toNat_natCast]
      exact ⟨(readH_text hr).2.2.2, rfl⟩
theorem byteOf_inj {a b : Int} (ha : 0 ≤ a) (ha' : a < 256) (hb : 0 ≤ b) (hb' : b < 256) (h : byteOf a = byteOf b) : a = b := by
  have h1 := toNat_byteOf a ha ha'
  have h2 := toNat_byteOf b hb hb'
  rw [h] at h1
  omega
theorem fourB_inj {a b : Int} (ha : vld a = true) (hb : vld b = true) (h : fourB a = fourB b) : a = b := by
  have ha := vld_true ha
  have hb := vld_true hb
  unfold fourB at h
  simp only [List.cons.injEq, and_true] at h
  obtain ⟨h1, h2, h3, h4⟩ := h
  have h1 := byteOf_inj (by omega) (by omega) (by omega) (by omega) h1
  have h2 := byteOf_inj (by omega) (by omega) (by omega) (by omega) h2
  have h3 := byteOf_inj (by omega) (by omega) (by omega) (by omega) h3
  have h4 := byteOf_inj (by omega) (by omega) (by omega) (by omega) h4
  omega
theorem nodeB_inj {a b c d : Int} (ha : vld a = true) (hb : vld b = true) (hc : vld c = true) (hd : vld d = true) (h : nodeB a b = nodeB c d) : a = c ∧ b = d := by
  unfold nodeB at h
  injection h with _ h
  obtain ⟨h1, h2⟩ := List.append_inj h rfl
  exact ⟨fourB_inj ha hc h1, fourB_inj hb hd h2⟩

theorem node_same {a b c d : Int} (ha : vld a = true) (hb : vld b = true) (hc : vld c = true) (hd : vld d = true) : (nodeB a b = nodeB c d) ↔ (a = c ∧ b = d) :=
  ⟨nodeB_inj ha hb hc hd, fun h => by rw [h.1, h.2]⟩

set_option maxRecDepth 100000 in
set_option maxHeartbeats 4000000 in
theorem walk (a b c d : Int) (s t : ByteArray) (w : World) (h0 : (Lit.int .i64 a).wf = true) (h1 : (Lit.int .i64 b).wf = true) (h2 : (Lit.int .i64 c).wf = true) (h3 : (Lit.int .i64 d).wf = true) (z4 : s.size < 140737488355328) (z5 : t.size < 140737488355328) (hG : StrG w) :
    Calls Tryd.prog 3 #[.int .i64 a, .int .i64 b, .int .i64 c, .int .i64 d, .string s, .string t] w fun e w' => e = .returned (.bool true) ∧ Ext w w' := by
  obtain ⟨hE, hN, hG0⟩ := errR_rules
  have HG := Lib.hid hG
  have z5' : t.size ≤ 140737488355328 := by omega
  have hsm : s.size ≤ maxLen := by unfold maxLen; omega
  have HP := Lib.hid fun (n : Int) W (e : Ext w W) => MPrint_any n W (HG.out.ext e).deb
  have HF1 := Lib.hid (HP.out 255 w (Ext.refl _))
  rw [fact255.1, fact255.2, errR_0] at HF1
  have HS0 := Lib.hid fun W => Sum_any ⟨#[]⟩ W (Nat.zero_le _)
  have hsu0 : sumL (⟨#[]⟩ : ByteArray).data.toList = 5381 := rfl
  rw [hsu0] at HS0
  have HSU := Lib.hid fun W => Sum_any s W hsm
  have hvs : vld (sumL s.data.toList) = true := vld_mk (sumL_bd _)
  obtain ⟨su, hsu⟩ : ∃ k, sumL s.data.toList = k := ⟨_, rfl⟩
  rw [hsu] at HSU hvs
  obtain ⟨b1, b2, b3⟩ := back_sum hvs
  have hpk := (print_vld hvs).2
  have HP1 := Lib.hid fun W (e : Ext w W) => HP.out su W e
  rw [hpk, errR_0] at HP1
  obtain ⟨u, hu⟩ : ∃ u, prV su = u := ⟨_, rfl⟩
  rw [hu] at HP1 b1 b2 b3
  have HM1 := Lib.hid fun W (e : Ext w W) => MParse_any u W (by omega) (HG.out.ext e)
  rw [b1, b2, errR_0] at HM1
  have HM2 := Lib.hid fun W (e : Ext w W) => MParse_any t W z5' (HG.out.ext e)
  obtain ⟨rk, hrk⟩ : ∃ k, readK t = k := ⟨_, rfl⟩
  obtain ⟨rv, hrv⟩ : ∃ k, readV t = k := ⟨_, rfl⟩
  have HBT : Hid (rk = 0 → prV rv = t ∧ prK rv = 0) := Lib.hid fun h => by rw [← hrv]; exact back_text (by rw [hrk]; exact h)
  rw [hrk, hrv] at HM2
  clear hsu hvs b1 b2 b3 hpk hu hrk hrv hG hsu0 h0 h1 h2 h3
  go_enter Tryd.func3, Tryd.ntmps3
  go_wp2_with fail
  refine HF1.out.mono ?_
  rintro _ w1 ⟨rfl, e1⟩
  clear HF1
  go_wp2_with fail
  refine (HS0.out _).mono ?_
  rintro _ w2 ⟨rfl, hb2⟩
  have e2 := e1.trans hb2
  clear HS0
  go_wp2_with fail
  refine (HSU.out _).mono ?_
  rintro _ w3 ⟨rfl, hb3⟩
  have e3 := e2.trans hb3
  go_wp2_with fail
  refine (HP1.out _ e3).mono ?_
  rintro _ w4 ⟨rfl, hb4⟩
  have e4 := e3.trans hb4
  go_wp2_with fail
  refine (HM1.out _ e4).mono ?_
  rintro _ w5 ⟨rfl, hb5⟩
  have e5 := e4.trans hb5
  go_wp2_with fail
  refine (HSU.out _).mono ?_
  rintro _ w6 ⟨rfl, hb6⟩
  have e6 := e5.trans hb6
  go_wp2_with fail
  refine (HM2.out _ e6).mono ?_
  rintro _ w7 ⟨rfl, hb7⟩
  have e7 := e6.trans hb7
  clear HP1 HM1 HM2 HSU hb2 hb3 hb4 hb5 hb6 hb7 e1 e2 e3 e4 e5 e6
  have HN1 := Lib.hid fun W => NodeBytes_tot a b W
  have HN2 := Lib.hid fun W => NodeBytes_tot c d W
  obtain ⟨W7, rfl⟩ : ∃ W, W = w7 := ⟨_, rfl⟩
  go_upto_if 67 with (fail)
  obtain ⟨kb, hkb⟩ : ∃ b, isOk rk = b := ⟨_, rfl⟩
  try rw [hkb]
  have HKB := Lib.hid hkb
  clear hkb
  go_cut [15, 18] (fun _ _ wc => Ext w wc)
  case first =>
    as_aux_lemma =>
    cases kb with
    | true =>
      obtain ⟨e1, e2⟩ := HBT.out (isOk_true HKB.out)
      have HPT := Lib.hid fun W (e : Ext w W) => HP.out rv W e
      rw [e1, e2, errR_0] at HPT
      clear e1 e2
      go_wp2_with fail
      refine (HPT.out _ e7).mono ?_
      rintro _ w8 ⟨rfl, hb8⟩
      have e8 := e7.trans hb8
      go_wp2_with fail
      go_meet
      exact e8
    | false =>
      go_wp2_with fail
      go_meet
      exact e7
  case rest =>
  as_aux_lemma =>
  rename_i wc
  have e8 := hcut
  go_wp2_with fail
  refine (HN1.out _).mono ?_
  rintro _ w9 ⟨rfl, hb9⟩
  have e9 := e8.trans hb9
  go_wp2_with fail
  refine (HN2.out _).mono ?_
  rintro _ w10 ⟨rfl, hb10⟩
  have e10 := e9.trans hb10
  clear HN1 HN2
  by_cases hab : okP a b = true
  · by_cases hcd : okP c d = true
    · have k1 : nkP a b = 0 := if_pos hab
      have k2 : nkP c d = 0 := if_pos hcd
      have x1 : nbP a b = ⟨(nodeB a b).toArray⟩ := if_pos hab
      have x2 : nbP c d = ⟨(nodeB c d).toArray⟩ := if_pos hcd
      rw [k1, k2, errR_0]
      obtain ⟨va, vb⟩ := Bool.and_eq_true_iff.1 hab
      obtain ⟨vc, vd⟩ := Bool.and_eq_true_iff.1 hcd
      have HND := Lib.hid fun W => Node_ok a b W va vb
      have hsx : (nbP a b).size = 9 := by rw [x1]; rfl
      have HSX := Lib.hid fun W => Sum_any (nbP a b) W (by rw [hsx]; decide)
      have hl : sumL (nbP a b).data.toList = nodeL a b := by rw [x1]; rfl
      rw [hl] at HSX
      have h9 : 0 < (nbP a b).size := by rw [hsx]; decide
      have hx0 : (nbP a b)[0]'h9 = (1 : UInt8) := by
        have : ∀ (z : ByteArray) (h : 0 < z.size), z = ⟨(nodeB a b).toArray⟩ → z[0]'h = (1 : UInt8) := by
          rintro z h rfl; rfl
        exact this _ h9 x1
      have hsame : nbP a b = nbP c d ↔ (a = c ∧ b = d) := by
        rw [x1, x2, ← node_same va vb vc vd]
        constructor
        · intro h; injection h with h; simpa using h
        · intro h; rw [h]
      obtain ⟨nl, hnl⟩ : ∃ k, nodeL a b = k := ⟨_, rfl⟩
      rw [hnl] at HND HSX
      generalize nbP a b = x at *
      generalize nbP c d = y at *
      have hsxi : (x.size : Int) = 9 := by omega
      have HSAME := Lib.hid hsame
      clear hab hcd k1 k2 x1 x2 va vb vc vd hl hsame hnl
      go_wp2_with fail
      refine (HND.out _).mono ?_
      rintro _ w11 ⟨rfl, hb11⟩
      have e11 := e10.trans hb11
      go_wp2_with fail
      refine (HSX.out _).mono ?_
      rintro _ w12 ⟨rfl, hb12⟩
      have e12 := e11.trans hb12
      clear HND HSX
      by_cases hac : a = c
      · by_cases hbd : b = d
        · obtain rfl := HSAME.out.2 ⟨hac, hbd⟩
          subst hac hbd
          clear HSAME
          go_wp2_with fail
          go_ret
          exact ⟨ret_bool (by simp), e12⟩
        · have hne : x ≠ y := fun h => hbd (HSAME.out.1 h).2
          have hne2 := (Lib.bytes_beq_false_iff x y).2 hne
          have hbd2 : (b == d) = false := by simp [hbd]
          subst hac
          clear HSAME
          go_wp2_with fail
          go_ret
          exact ⟨ret_bool (by simp), e12⟩
      · have hne : x ≠ y := fun h => hac (HSAME.out.1 h).1
        have hne2 := (Lib.bytes_beq_false_iff x y).2 hne
        have hac2 : (a == c) = false := by simp [hac]
        clear HSAME
        go_wp2_with fail
        go_ret
        exact ⟨ret_bool (by simp), e12⟩
    · have k1 : nkP a b = 0 := if_pos hab
      have k2 : nkP c d = 1 := if_neg hcd
      rw [k1, k2, errR_0]
      clear hab hcd k1 k2
      go_wp2_with fail
      go_ret
      exact ⟨rfl, e10⟩
  · have k1 : nkP a b = 1 := if_neg hab
    rw [k1]
    clear hab k1
    generalize nkP c d = k2
    go_wp2_with fail
    go_ret
    exact ⟨rfl, e10⟩
end Go.Proofs.YtelcabjhbgkfmaaDoor.mixBack
