import Derived.Test.YtgfkalhpefjenaaDoorR5
import Derived.Test.YtgfkalhpefjenaaDoorRE5
import Derived.Test.YtgfkalhpefjenaaDoorQuiet
import Derived.Deep.DeepCutAuto
import Derived.Deep.CutBlock
namespace Go.Proofs.YtgfkalhpefjenaaDoor.entryTells
open Go.RowKit
set_option linter.unusedVariables false
attribute [local go_sem ↓] Go.wp_at_zero Go.wp_at_succ

def packJ (k : Int) (es : List Ent) (j : Nat) : ByteArray := if k = 0 then packB es j else ⟨#[]⟩
theorem packJ_end {es : List Ent} (h : entsErr es = 0) : packB es es.length = packR es := (if_pos h).symm
theorem packJ_bad {es : List Ent} (h : entsErr es ≠ 0) : packR es = ⟨#[]⟩ := if_neg h

set_option maxRecDepth 100000 in
set_option maxHeartbeats 8000000 in
theorem walk (x : Ent) (s : ByteArray) (A : Option Addr) (n c : Nat) (es : List Ent) (t : ByteArray) (w : World) (g0 : x.good) (hs : s.size ≤ 140737488355328) (hl : es.length = n) (hm : c ≤ maxLen) (hr : Rd w 2 A n c (es.flatMap Ent.cells)) (hgd : ∀ y ∈ es, y.good) (ht : t.size ≤ 140737488355328) (hg : ErrG w) :
    Calls Tryd.prog 8 #[.agg x.cells.toArray, .string s, .slice A n c, .string t] w fun e w' => e = .returned (.bool true) ∧ Ext w w' := by
  obtain ⟨xt, xd⟩ := x
  have hlc := hr.2.1
  have HX := Lib.hid hl
  have hs' : s.size ≤ maxLen := by unfold maxLen; omega
  obtain ⟨k0, HK0⟩ : ∃ k, Hid (encK ⟨xt, xd⟩ = k) := ⟨_, rfl⟩
  obtain ⟨xb, HXB⟩ : ∃ k, Hid (encB ⟨xt, xd⟩ = k) := ⟨_, rfl⟩
  obtain ⟨dk, HDK⟩ : ∃ k, Hid (decK s = k) := ⟨_, rfl⟩
  obtain ⟨db, HDB⟩ : ∃ k, Hid (decB s = k) := ⟨_, rfl⟩
  obtain ⟨dt, HDT⟩ : ∃ k, Hid ((decE s).time = k) := ⟨_, rfl⟩
  obtain ⟨dd, HDD⟩ : ∃ k, Hid ((decE s).data = k) := ⟨_, rfl⟩
  obtain ⟨ke, HKE⟩ : ∃ k, Hid (entsErr es = k) := ⟨_, rfl⟩
  obtain ⟨ls, HLS⟩ : ∃ k, Hid (leafsE es = k) := ⟨_, rfl⟩
  obtain ⟨pk, HPK⟩ : ∃ k, Hid (packR es = k) := ⟨_, rfl⟩
  obtain ⟨uk, HUK⟩ : ∃ k, Hid (unpK t = k) := ⟨_, rfl⟩
  obtain ⟨ub, HUB⟩ : ∃ k, Hid (unpB t = k) := ⟨_, rfl⟩
  obtain ⟨ul, HUL⟩ : ∃ k, Hid (unpL t = k) := ⟨_, rfl⟩
  have HULN : Hid (ul.length ≤ 200) := by show _ ≤ _; rw [← HUL.out]; exact unpL_len t
  have HTC : Hid ((⟨xt, xd⟩ : Ent).cells.toArray = #[.int .i64 xt, .string xd]) := rfl
  clear hl hgd g0
  rw [HTC.out]
  clear HTC
  go_enter Tryd.func8, Tryd.ntmps8
  go_upto_region 1 with (fail)
  have B0 : Bk (w.alloc (.cells #[.int .i64 xt, .string xd] 52)) w.heap.size 52 #[.int .i64 xt, .string xd] := Bk.at_ _ _ _ _ rfl
  have X0 : Ext w (w.alloc (.cells #[.int .i64 xt, .string xd] 52)) := by (repeat (with_reducible first | exact Ext.refl _ | assumption | refine Ext.drew ?_ | refine Ext.drewN ?_ _ | refine Ext.alloc ?_ _ | refine Ext.trans ?_ (by with_reducible assumption)))
  generalize hw0 : w.alloc (.cells #[.int .i64 xt, .string xd] 52) = w0 at *
  clear hw0
  have b0 := B0.cell 0
  have b1 := B0.cell 1
  go_wp2_with fail
  refine (REntry_any xt xd _).mono ?_
  rw [HK0.out]
  rintro _ w1 ⟨rfl, hb1⟩
  have X1 := X0.trans hb1
  have B1 := B0.ext hb1
  clear b0 b1
  have b0 := B1.cell 0
  have b1 := B1.cell 1
  go_wp2_with fail
  refine (eCheck_any xt xd _).mono ?_
  rw [HK0.out]
  rintro _ w2 ⟨rfl, hb2⟩
  have X2 := X1.trans hb2
  go_wp2_with fail
  refine (Error_same k0 _ (hg.ext X2)).mono ?_
  rintro _ w3 ⟨rfl, hb3⟩
  have X3 := X2.trans hb3
  have B3 := (B1.ext hb2).ext hb3
  clear b0 b1 B0 B1 X0 X1 X2 hb1 hb2 hb3
  have b0 := B3.cell 0
  have b1 := B3.cell 1
  go_upto_region 4 with (fail)
  obtain ⟨tb, HTB⟩ : ∃ tb : Bool, Hid (tb = decide (k0 = 0)) := ⟨_, rfl⟩
  go_cut [39] (fun v wc => v = .bool tb ∧ w3 = wc)
  case first =>
    as_aux_lemma =>
    have hb := HTB.out
    by_cases h : k0 = 0
    · subst h
      rw [decide_eq_true rfl] at hb
      subst hb
      go_wp2_with fail
      go_meet
      exact ⟨rfl, rfl⟩
    · rw [decide_eq_false h] at hb
      subst hb
      have a1' : (k0 == 0) = false := by simp [h]
      clear h
      go_wp2_with fail
      go_meet
      exact ⟨rfl, rfl⟩
  case rest =>
  as_aux_lemma =>
  obtain ⟨rfl, rfl⟩ := hcut
  go_upto_if 39 with (fail)
  go_cut [11] (fun v wc => v = .string xb ∧ Ext w3 wc)
  case first =>
    as_aux_lemma =>
    have hb := HTB.out
    have hx := HXB.out
    unfold encB at hx
    by_cases h : (⟨xt, xd⟩ : Ent).ok
    · have hk := encK_zero.2 h
      rw [HK0.out] at hk
      rw [if_pos h] at hx
      rw [decide_eq_true hk] at hb
      subst hb
      subst hx
      have HH := Lib.hid h
      clear h hk HK0 HTB HXB
      go_wp2_with fail
      refine (RBytes_any xt xd _ HH.out).mono ?_
      rintro _ w4 ⟨rfl, hb4⟩
      generalize (⟨xt, xd⟩ : Ent).bytes = y at *
      go_wp2_with fail
      go_meet
      exact ⟨rfl, hb4⟩
    · have hk : k0 ≠ 0 := fun h' => h (encK_zero.1 (HK0.out.trans h'))
      rw [if_neg h] at hx
      rw [decide_eq_false hk] at hb
      subst hb
      subst hx
      clear h hk HK0 HTB HXB
      go_wp2_with fail
      go_meet
      exact ⟨rfl, by (repeat (with_reducible first | exact Ext.refl _ | assumption | refine Ext.drew ?_ | refine Ext.drewN ?_ _ | refine Ext.alloc ?_ _ | refine Ext.trans ?_ (by with_reducible assumption)))⟩
  case rest =>
  as_aux_lemma =>
  obtain ⟨rfl, hb4⟩ := hcut
  clear b0 b1
  have X4 := X3.trans hb4
  have B4 := B3.ext hb4
  have b0 := B4.cell 0
  have b1 := B4.cell 1
  clear X3 B3 hb4 HTB
  go_wp2_with fail
  refine (Encode_any xt xd _).mono ?_
  rw [HXB.out, HK0.out]
  rintro _ w5 ⟨rfl, hb5⟩
  have X5 := X4.trans hb5
  clear b0 b1
  go_wp2_with fail
  refine (Error_same k0 _ (hg.ext X5)).mono ?_
  rintro _ w6 ⟨rfl, hb6⟩
  have X6 := X5.trans hb6
  clear X4 X5 B4 hb5 hb6
  go_wp2_with fail
  refine (RDecode_any s _ hs').mono ?_
  rw [HDT.out, HDD.out, HDB.out]
  rintro _ w7 ⟨rfl, hb7⟩
  have X7 := X6.trans hb7
  clear X6 hb7
  go_upto_region 9 with (fail)
  have hgw : w.heap.size ≤ w7.heap.size := X7.size
  have B8 : Bk (w7.alloc (.cells #[.int .i64 dt, .string dd] 52)) w7.heap.size 52 #[.int .i64 dt, .string dd] := Bk.at_ _ _ _ _ rfl
  have X8 : Ext w (w7.alloc (.cells #[.int .i64 dt, .string dd] 52)) := X7.alloc _
  generalize w7.heap.size = gy at *
  generalize w7.alloc (.cells #[.int .i64 dt, .string dd] 52) = w8 at *
  clear X7
  have HDF : Hid ((db = false ∧ dk = 2 ∧ dt = 0 ∧ dd = ⟨#[]⟩) ∨ (db = true ∧ dk = 0)) := by
    show _ ∨ _
    have q1 := HDK.out
    have q2 := HDB.out
    have q3 := HDT.out
    have q4 := HDD.out
    cases h : decO s with
    | none =>
      obtain ⟨p1, p2, p3⟩ := dec_none' h
      rw [p1] at q3 q4
      exact .inl ⟨q2.symm.trans p2, q1.symm.trans p3, q3.symm, q4.symm⟩
    | some e =>
      have hb : decB s = true := by unfold decB; rw [h]; rfl
      exact .inr ⟨q2.symm.trans hb, q1.symm.trans (by unfold decK; rw [hb]; rfl)⟩
  go_upto_if 56 with (fail)
  go_cut [9] (fun v wc => v = .int .i64 dk ∧ Bk wc gy 52 #[.int .i64 dt, .string dd] ∧ Ext w wc)
  case first =>
    as_aux_lemma =>
    rcases HDF.out with ⟨rfl, rfl, rfl, rfl⟩ | ⟨rfl, rfl⟩
    · have hz := B8.lt
      have c0 := B8.cell 0
      have c1 := B8.cell 1
      have f0 := B8.frozen 0
      have f1 := B8.frozen 1
      go_wp2_with fail
      go_meet
      exact ⟨rfl, (B8.set_ 0 (.int .i64 0)).set_ 1 (.string ⟨#[]⟩), (X8.setCell (p := ⟨gy, 0, none⟩) hgw _).setCell (p := ⟨gy, 1, none⟩) hgw _⟩
    · go_wp2_with fail
      go_meet
      exact ⟨rfl, B8, X8⟩
  case rest =>
  as_aux_lemma =>
  obtain ⟨rfl, B9, X9⟩ := hcut
  clear X8 B8 HDF
  go_wp2_with fail
  refine (Decode_any s _ hs').mono ?_
  rw [HDT.out, HDD.out, HDK.out]
  rintro _ w10 ⟨rfl, hb10⟩
  have X10 := X9.trans hb10
  have B10 := B9.ext hb10
  clear X9 B9 hb10
  go_upto_region 14 with (fail)
  have Z11 : Bk (w10.alloc (.cells #[.int .i64 dt, .string dd] 52)) w10.heap.size 52 #[.int .i64 dt, .string dd] := Bk.at_ _ _ _ _ rfl
  have B11 := B10.alloc (.cells #[.int .i64 dt, .string dd] 52)
  have X11 : Ext w (w10.alloc (.cells #[.int .i64 dt, .string dd] 52)) := X10.alloc _
  generalize w10.heap.size = gz at *
  generalize w10.alloc (.cells #[.int .i64 dt, .string dd] 52) = w11 at *
  clear X10 B10
  go_wp2_with fail
  refine (Error_same dk _ (hg.ext X11)).mono ?_
  rintro _ w12 ⟨rfl, hb12⟩
  have X12 := X11.trans hb12
  go_wp2_with fail
  refine (REntries_any A n c es _ (hr.ext X12) hm).mono ?_
  rw [HKE.out]
  rintro _ w13 ⟨rfl, hb13⟩
  have X13 := X12.trans hb13
  have B13 := (B11.ext hb12).ext hb13
  have Z13 := (Z11.ext hb12).ext hb13
  clear X11 X12 B11 Z11 hb12 hb13
  obtain ⟨te, HTE⟩ : ∃ te : Bool, Hid (te = decide (ke = 0)) := ⟨_, rfl⟩
  go_upto_region 18 with (fail)
  go_cut [69] (fun v wc => v = .bool te ∧ w13 = wc)
  case first =>
    as_aux_lemma =>
    have hb := HTE.out
    by_cases h : ke = 0
    · subst h
      rw [decide_eq_true rfl] at hb
      subst hb
      go_wp2_with fail
      go_meet
      exact ⟨rfl, rfl⟩
    · rw [decide_eq_false h] at hb
      subst hb
      have a1' : (ke == 0) = false := by simp [h]
      clear h
      go_wp2_with fail
      go_meet
      exact ⟨rfl, rfl⟩
  case rest =>
  as_aux_lemma =>
  obtain ⟨rfl, rfl⟩ := hcut
  obtain ⟨p0, HP0⟩ : ∃ k, Hid (packJ ke es 0 = k) := ⟨_, rfl⟩
  go_upto_if 69 with (fail)
  go_cut [19, 20] (fun p v wc => p = .string p0 ∧ OwnI w13 wc v ls ∧ Ext w13 wc)
  case first =>
    as_aux_lemma =>
    have hb := HTE.out
    have hls := HLS.out
    have hp := HP0.out
    unfold leafsE at hls
    rw [HKE.out] at hls
    unfold packJ at hp
    by_cases h : ke = 0
    · have hok := Lib.hid (entsErr_zero.1 (HKE.out.trans h))
      rw [if_pos h] at hls hp
      rw [decide_eq_true h] at hb
      have hn : n ≤ 200 := by have := hok.out.1; rw [HX.out] at this; exact this
      have HB1 : Hid ((⟨#[byteOf (n : Int)]⟩ : ByteArray) = p0) := by show _ = _; rw [← hp, packB_zero, HX.out]
      have HLE : Hid (es.map Ent.leaf = ls) := hls
      have hcv := fun (w : World) (g : Nat) (x : Int) (hg : g = w.heap.size) => run_conv_new (P := Tryd.prog) w g hg 64 9 5 1 [x] Tryd.underlying64 Tryd.underlying5 Tryd.underlying9
      simp only [List.map_cons, List.map_nil, List.length_singleton] at hcv
      subst hb
      clear h HKE HLS HP0 hls hp HTE
      go_wp2_with fail
      rw [HB1.out]
      refine (REntryLeafs_ok A n c es _ ((hr.ext X13).ext ?he) hm hok.out).mono ?_
      case he => (repeat (with_reducible first | exact Ext.refl _ | assumption | refine Ext.drew ?_ | refine Ext.drewN ?_ _ | refine Ext.alloc ?_ _ | refine Ext.trans ?_ (by with_reducible assumption)))
      rw [HLE.out]
      rintro _ w14 ⟨⟨v14, rfl, own14⟩, hb14⟩
      have own14' : OwnI w13 w14 v14 ls := own14.lower (by simp)
      go_wp2_with fail
      go_meet
      exact ⟨rfl, own14', by (repeat (with_reducible first | exact Ext.refl _ | assumption | refine Ext.drew ?_ | refine Ext.drewN ?_ _ | refine Ext.alloc ?_ _ | refine Ext.trans ?_ (by with_reducible assumption)))⟩
    · rw [if_neg h] at hls hp
      rw [decide_eq_false h] at hb
      subst hb
      subst hls
      subst hp
      clear h HKE HLS HP0 HTE
      go_wp2_with fail
      go_meet
      exact ⟨rfl, own_nil _ _ _ _, by (repeat (with_reducible first | exact Ext.refl _ | assumption | refine Ext.drew ?_ | refine Ext.drewN ?_ _ | refine Ext.alloc ?_ _ | refine Ext.trans ?_ (by with_reducible assumption)))⟩
  case rest =>
  as_aux_lemma =>
  obtain ⟨rfl, own14, hb14⟩ := hcut
  have X14 := X13.trans hb14
  have B14 := B13.ext hb14
  have Z14 := Z13.ext hb14
  obtain ⟨A1, c1, rfl, hc1, R1⟩ := own14.rd
  clear X13 B13 Z13 hb14 own14 HTE
  go_upto_block 0 with (fail)
  go_cut [19, 21, 22] (fun p _ _ w' => p = .string pk ∧ Ext wc w')
  case first =>
    as_aux_lemma =>
    have hp := HP0.out
    have hk := HPK.out
    unfold packJ at hp
    by_cases h : ke = 0
    · have hok := Lib.hid (entsErr_zero.1 (HKE.out.trans h))
      have hn : n ≤ 200 := by have := hok.out.1; rw [HX.out] at this; exact this
      have HZ := Lib.hid fun j => packB_size hok.out.2 j hok.out.1
      rw [if_pos h] at hp
      unfold packR at hk
      rw [HKE.out, if_pos h, HX.out] at hk
      have HK2 := Lib.hid hk
      have hr14 := hr.ext X14
      subst h
      subst hp
      clear HP0 HPK hk HKE
      go_wp2_with fail
      go_loopw [19, 21] (fun p x wr => ∃ j : Nat, x = .int .i64 j ∧ p = .string (packB es j) ∧ j ≤ n ∧ Ext wc wr) (fun _ x _ => n - (intOf x).toNat)
      case atStart => exact ⟨0, rfl, rfl, Nat.zero_le _, by (repeat (with_reducible first | exact Ext.refl _ | assumption | refine Ext.drew ?_ | refine Ext.drewN ?_ _ | refine Ext.alloc ?_ _ | refine Ext.trans ?_ (by with_reducible assumption)))⟩
      case round =>
        obtain ⟨j, rfl, rfl, hj, hbw⟩ := hrel
        by_cases hc : j < n
        · have hgj := List.getElem?_eq_getElem (l := es) (i := j) (by rw [HX.out]; exact hc)
          have hok2 := Lib.hid (hok.out.2 _ (List.mem_of_getElem? hgj))
          obtain ⟨ad, rfl, hb, c0, c1⟩ := (hr14.ext hbw).getE hgj
          have HT := Lib.hid (packB_next hgj)
          generalize es[j]'(by rw [HX.out]; exact hc) = e at *
          have hsz := e.bytes_size
          have hds := hok2.out.2.2
          have hz0 := HZ.out j
          generalize packB es j = b at *
          clear hgj
          go_wp2_with fail
          refine (RBytes_any _ _ _ hok2.out).mono ?_
          rintro _ w1 ⟨rfl, hb1⟩
          generalize Ent.bytes ⟨e.time, e.data⟩ = b2 at *
          go_wp2_with fail
          go_roundw
          case rel => exact ⟨j + 1, by go_num, by rw [HT.out], by omega, by (repeat (with_reducible first | exact Ext.refl _ | assumption | refine Ext.drew ?_ | refine Ext.drewN ?_ _ | refine Ext.alloc ?_ _ | refine Ext.trans ?_ (by with_reducible assumption)))⟩
          case measure => simp [intOf]; omega
        · obtain rfl : j = n := by omega
          go_wp2_with fail
          rw [HK2.out]
          go_meet
          exact ⟨rfl, by (repeat (with_reducible first | exact Ext.refl _ | assumption | refine Ext.drew ?_ | refine Ext.drewN ?_ _ | refine Ext.alloc ?_ _ | refine Ext.trans ?_ (by with_reducible assumption)))⟩
    · rw [if_neg h] at hp
      rw [← HKE.out] at h
      rw [packJ_bad h] at hk
      rw [HKE.out] at h
      subst hk
      subst hp
      have a1' : (ke == 0) = false := by simp [h]
      clear h HP0 HPK HKE
      go_wp2_with fail
      go_loopw [19, 21] (fun p x wr => p = .string ⟨#[]⟩ ∧ x = .int .i64 0 ∧ wc = wr) (fun _ _ _ => 0)
      case atStart => exact ⟨rfl, rfl, rfl⟩
      case round =>
        obtain ⟨rfl, rfl, rfl⟩ := hrel
        by_cases hc : 0 < n
        · go_wp2_with fail
          go_meet
          exact ⟨rfl, by (repeat (with_reducible first | exact Ext.refl _ | assumption | refine Ext.drew ?_ | refine Ext.drewN ?_ _ | refine Ext.alloc ?_ _ | refine Ext.trans ?_ (by with_reducible assumption)))⟩
        · obtain rfl : n = 0 := by omega
          go_wp2_with fail
          go_meet
          exact ⟨rfl, by (repeat (with_reducible first | exact Ext.refl _ | assumption | refine Ext.drew ?_ | refine Ext.drewN ?_ _ | refine Ext.alloc ?_ _ | refine Ext.trans ?_ (by with_reducible assumption)))⟩
  case rest =>
  as_aux_lemma =>
  obtain ⟨rfl, hb15⟩ := hcut
  have X15 := X14.trans hb15
  have B15 := B14.ext hb15
  have Z15 := Z14.ext hb15
  have R15 := R1.ext hb15
  clear X14 B14 Z14 R1 hb15 HP0
  go_wp2_with fail
  refine (Pack_any A n c es _ (hr.ext X15) hm).mono ?_
  rw [HPK.out, HKE.out]
  rintro _ w16 ⟨rfl, hb16⟩
  have X16 := X15.trans hb16
  go_wp2_with fail
  refine (Error_same ke _ (hg.ext X16)).mono ?_
  rintro _ w17 ⟨rfl, hb17⟩
  have X17 := X16.trans hb17
  go_wp2_with fail
  refine (Leafs_any A n c es _ (hr.ext X17) hm).mono ?_
  rw [HLS.out, HKE.out]
  rintro _ w18 ⟨⟨v18, rfl, own18⟩, hb18⟩
  obtain ⟨A2, c2, rfl, hc2, R18⟩ := own18.rd
  have X18 := X17.trans hb18
  clear own18
  go_wp2_with fail
  refine (Error_same ke _ (hg.ext X18)).mono ?_
  rintro _ w19 ⟨rfl, hb19⟩
  have X19 := X18.trans hb19
  go_wp2_with fail
  refine (Ints_any A2 A1 _ _ c2 c1 ls ls _ (R18.ext hb19) ((((R15.ext hb16).ext hb17).ext hb18).ext hb19) hc2 hc1).mono ?_
  rw [sameB_self]
  rintro _ w20 ⟨rfl, hb20⟩
  have X20 := X19.trans hb20
  have B20 := ((((B15.ext hb16).ext hb17).ext hb18).ext hb19).ext hb20
  have Z20 := ((((Z15.ext hb16).ext hb17).ext hb18).ext hb19).ext hb20
  clear X15 X16 X17 X18 X19 hb16 hb17 hb18 hb19 hb20 B15 Z15 R15 R18
  go_wp2_with fail
  refine (RUnpack_tot t _ ht).mono ?_
  rw [HUB.out, HUL.out]
  rintro _ w21 ⟨⟨v21, rfl, own21⟩, hb21⟩
  have X21 := X20.trans hb21
  have B21 := B20.ext hb21
  have Z21 := Z20.ext hb21
  have HOW := Lib.hid own21
  clear X20 B20 Z20 hb21 own21
  have HUF : Hid ((ub = false ∧ uk = 2 ∧ ul = []) ∨ (ub = true ∧ uk = 0)) := by
    show _ ∨ _
    have q1 := HUK.out
    have q2 := HUB.out
    have q3 := HUL.out
    cases h : unpackE t with
    | none =>
      obtain ⟨p1, p2, p3⟩ := unp_none h
      exact .inl ⟨q2.symm.trans p2, q1.symm.trans p3, q3.symm.trans p1⟩
    | some e =>
      obtain ⟨p1, p2, p3⟩ := unp_some h
      exact .inr ⟨q2.symm.trans p2, q1.symm.trans p3⟩
  go_upto_region 33 with (fail)
  go_upto_if 120 with (fail)
  go_cut [9, 28] (fun e v wc => e = .int .i64 uk ∧ OwnE w20 wc v ul ∧ w21 = wc)
  case first =>
    as_aux_lemma =>
    rcases HUF.out with ⟨rfl, rfl, rfl⟩ | ⟨rfl, rfl⟩
    · go_wp2_with fail
      go_meet
      exact ⟨rfl, own_nil _ _ _ _, rfl⟩
    · go_wp2_with fail
      go_meet
      exact ⟨rfl, HOW.out trivial, rfl⟩
  case rest =>
  as_aux_lemma =>
  obtain ⟨rfl, own22, rfl⟩ := hcut
  obtain ⟨A3, c3, rfl, hc3, R22, -⟩ := own_rd own22
  clear own22 HOW HUF
  go_wp2_with fail
  refine (Unpack_tot t _ ht).mono ?_
  rw [HUK.out, HUL.out]
  rintro _ w23 ⟨⟨v23, rfl, own23⟩, hb23⟩
  obtain ⟨A4, c4, rfl, hc4, R23, -⟩ := own_rd own23
  have X23 := X21.trans hb23
  clear own23
  go_wp2_with fail
  refine (Error_same uk _ (hg.ext X23)).mono ?_
  rintro _ w24 ⟨rfl, hb24⟩
  have X24 := X23.trans hb24
  go_wp2_with fail
  refine (Entries_same A4 A3 _ c4 c3 ul _ (R23.ext hb24) ((R22.ext hb23).ext hb24) HULN.out).mono ?_
  rintro _ w25 ⟨rfl, hb25⟩
  have X25 := X24.trans hb25
  have B25 := ((B21.ext hb23).ext hb24).ext hb25
  have Z25 := ((Z21.ext hb23).ext hb24).ext hb25
  clear X21 X23 X24 hb23 hb24 hb25 B21 Z21 R22 R23
  have b0 := B25.cell 0
  have b1 := B25.cell 1
  have z0 := Z25.cell 0
  have z1 := Z25.cell 1
  go_wp2_with fail
  go_ret
  exact ⟨rfl, X25⟩
end Go.Proofs.YtgfkalhpefjenaaDoor.entryTells
