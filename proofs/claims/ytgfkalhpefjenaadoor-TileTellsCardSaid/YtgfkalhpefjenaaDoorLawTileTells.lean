import Derived.Test.YtgfkalhpefjenaaDoorR5
import Derived.Test.YtgfkalhpefjenaaDoorTileTot
import Derived.Test.YtgfkalhpefjenaaDoorQuiet
import Derived.Deep.DeepCutAuto
import Derived.Deep.CutBlock
namespace Go.Proofs.YtgfkalhpefjenaaDoor.tileTells
open Go.RowKit
set_option linter.unusedVariables false
attribute [local go_sem ↓] Go.wp_at_zero Go.wp_at_succ

set_option maxRecDepth 100000 in
set_option maxHeartbeats 8000000 in
theorem walk (A : Option Addr) (n c : Nat) (xs : List Int) (size : Int) (t : Tl) (level i : Int) (w : World) (hl : xs.length = n) (hm : c ≤ maxLen) (hr : Rd w 1 A n c (xs.map (Value.int .i64))) (hgd : ∀ y ∈ xs, igood y) (h0 : igood size) (h1 : t.good) (h2 : igood level) (h3 : igood i) (hg : ErrG w) :
    Calls Tryd.prog 9 #[.slice A n c, .int .i64 size, .agg t.cells.toArray, .int .i64 level, .int .i64 i] w fun e w' => e = .returned (.bool true) ∧ Ext w w' := by
  obtain ⟨tl, ti, tw⟩ := t
  have hlc := hr.2.1
  have HX := Lib.hid hl
  obtain ⟨k1, HK1⟩ : ∃ k, Hid (allK size = k) := ⟨_, rfl⟩
  obtain ⟨T1, HT1⟩ : ∃ T, Hid (allW size = T) := ⟨_, rfl⟩
  have HTL : Hid (T1.length ≤ 204) := by show _ ≤ _; rw [← HT1.out]; exact allW_len size
  obtain ⟨k0, HK0⟩ : ∃ k, Hid (leafsK xs = k) := ⟨_, rfl⟩
  obtain ⟨k2, HK2⟩ : ∃ k, Hid (tsK xs ⟨tl, ti, tw⟩ = k) := ⟨_, rfl⟩
  obtain ⟨ys, HYS⟩ : ∃ T, Hid (tsV xs ⟨tl, ti, tw⟩ = T) := ⟨_, rfl⟩
  obtain ⟨k3, HK3⟩ : ∃ k, Hid (whK level i = k) := ⟨_, rfl⟩
  obtain ⟨ut, HUT⟩ : ∃ T, Hid (whT level i = T) := ⟨_, rfl⟩
  obtain ⟨at_, HAT⟩ : ∃ k, Hid (whA level i = k) := ⟨_, rfl⟩
  have HTC : Hid ((⟨tl, ti, tw⟩ : Tl).cells.toArray = #[.int .i64 tl, .int .i64 ti, .int .i64 tw]) := rfl
  clear hl hgd h0 h1 h2 h3
  rw [HTC.out]
  clear HTC
  go_enter Tryd.func9, Tryd.ntmps9
  go_upto_region 3 with (fail)
  have B0 : Bk (w.alloc (.cells #[.int .i64 tl, .int .i64 ti, .int .i64 tw] 30)) w.heap.size 30 #[.int .i64 tl, .int .i64 ti, .int .i64 tw] := Bk.at_ _ _ _ _ rfl
  have X0 : Ext w (w.alloc (.cells #[.int .i64 tl, .int .i64 ti, .int .i64 tw] 30)) := by (repeat (with_reducible first | exact Ext.refl _ | assumption | refine Ext.drew ?_ | refine Ext.drewN ?_ _ | refine Ext.alloc ?_ _ | refine Ext.trans ?_ (by with_reducible assumption)))
  generalize hw0 : w.alloc (.cells #[.int .i64 tl, .int .i64 ti, .int .i64 tw] 30) = w0 at *
  clear hw0
  obtain ⟨tb, HTB⟩ : ∃ tb : Bool, Hid (tb = decide (size < 0 ∨ 200 < size)) := ⟨_, rfl⟩
  go_cut [33] (fun v wc => v = .bool tb ∧ w0 = wc)
  case first =>
    as_aux_lemma =>
    have h : size < 0 ∨ (0 ≤ size ∧ 200 < size) ∨ (0 ≤ size ∧ size ≤ 200) := by omega
    rcases h with h | ⟨h, h'⟩ | ⟨h, h'⟩
    all_goals
      have hb := HTB.out
      first
        | rw [decide_eq_true (by omega)] at hb
        | rw [decide_eq_false (by omega)] at hb
      subst hb
      go_wp2_with fail
      go_meet
      exact ⟨by first | rfl | (congr 1; simp; omega), rfl⟩
  case rest =>
  as_aux_lemma =>
  obtain ⟨rfl, rfl⟩ := hcut
  go_upto_if 33 with (fail)
  go_cut [11, 12] (fun e v wc => e = .int .i64 k1 ∧ OwnT w0 wc v T1 ∧ Ext w0 wc)
  case first =>
    as_aux_lemma =>
    by_cases h : 0 ≤ size ∧ size ≤ 200
    · have hb := HTB.out
      rw [decide_eq_false (by omega)] at hb
      have e1 : allK size = 0 := if_pos h
      have e2 : allW size = allT size.toNat 4 := if_pos h
      rw [HK1.out] at e1
      rw [HT1.out] at e2
      subst e1
      subst e2
      subst hb
      obtain ⟨h, h'⟩ := h
      obtain ⟨s, rfl⟩ := Int.eq_ofNat_of_zero_le h
      rw [Int.toNat_natCast] at *
      go_wp2_with fail
      refine (RTiles_any s _ (by omega)).mono ?_
      rintro _ w1 ⟨⟨v1, rfl, own1⟩, hb1⟩
      go_wp2_with fail
      go_meet
      exact ⟨rfl, own1, hb1⟩
    · have hb := HTB.out
      rw [decide_eq_true (by omega)] at hb
      have e1 : allK size = 1 := if_neg h
      have e2 : allW size = [] := if_neg h
      rw [HK1.out] at e1
      rw [HT1.out] at e2
      subst e1
      subst e2
      subst hb
      clear h
      go_wp2_with fail
      go_meet
      exact ⟨rfl, own_nil _ _ _ _, by (repeat (with_reducible first | exact Ext.refl _ | assumption | refine Ext.drew ?_ | refine Ext.drewN ?_ _ | refine Ext.alloc ?_ _ | refine Ext.trans ?_ (by with_reducible assumption)))⟩
  case rest =>
    as_aux_lemma =>
    obtain ⟨rfl, own1, hb1⟩ := hcut
    obtain ⟨A1, c1, rfl, hc1, R1, -⟩ := own_rd own1
    clear own1
    have X1 := X0.trans hb1
    have B1 := B0.ext hb1
    clear B0 X0 hb1
    go_wp2_with fail
    refine (All_any size _).mono ?_
    rw [HK1.out, HT1.out]
    rintro _ w2 ⟨⟨v2, rfl, own2⟩, hb2⟩
    obtain ⟨A2, c2, rfl, hc2, R2, -⟩ := own_rd own2
    clear own2
    have X2 := X1.trans hb2
    go_wp2_with fail
    refine (Error_same k1 _ (hg.ext X2)).mono ?_
    rintro _ w3 ⟨rfl, hb3⟩
    have X3 := X2.trans hb3
    go_wp2_with fail
    refine (Tiles_same A2 A1 _ c2 c1 T1 _ (R2.ext hb3) ((R1.ext hb2).ext hb3) rfl (by have := HTL.out; omega)).mono ?_
    rintro _ w4 ⟨rfl, hb4⟩
    have X4 := X3.trans hb4
    have B4 := ((B1.ext hb2).ext hb3).ext hb4
    clear X1 X2 X3 hb2 hb3 hb4 B1 R1 R2
    go_wp2_with fail
    refine (RLeafs_tot A n c xs _ (hr.ext X4) hm).mono ?_
    rw [HK0.out]
    rintro _ w5 ⟨rfl, rfl⟩
    have b0 := B4.cell 0
    have b1 := B4.cell 1
    have b2 := B4.cell 2
    obtain ⟨ta, HTA⟩ : ∃ ta : Bool, Hid (ta = decide (k0 = 0 ∧ ¬ (0 ≤ tl ∧ tl ≤ 3 ∧ 0 ≤ ti ∧ 1 ≤ tw ∧ tw ≤ 4))) := ⟨_, rfl⟩
    go_upto_region 10 with (fail)
    go_cut [75] (fun v wc => v = .bool ta ∧ w4 = wc)
    case first =>
      as_aux_lemma =>
      have hw : (k0 ≠ 0) ∨ (k0 = 0 ∧ tl < 0) ∨ (k0 = 0 ∧ 0 ≤ tl ∧ 3 < tl) ∨ (k0 = 0 ∧ 0 ≤ tl ∧ tl ≤ 3 ∧ ti < 0) ∨ (k0 = 0 ∧ 0 ≤ tl ∧ tl ≤ 3 ∧ 0 ≤ ti ∧ tw < 1) ∨ (k0 = 0 ∧ 0 ≤ tl ∧ tl ≤ 3 ∧ 0 ≤ ti ∧ 1 ≤ tw ∧ 4 < tw) ∨ (k0 = 0 ∧ 0 ≤ tl ∧ tl ≤ 3 ∧ 0 ≤ ti ∧ 1 ≤ tw ∧ tw ≤ 4) := by omega
      rcases hw with a1 | ⟨a1, a2⟩ | ⟨a1, a2, a3⟩ | ⟨a1, a2, a3, a4⟩ | ⟨a1, a2, a3, a4, a5⟩ | ⟨a1, a2, a3, a4, a5, a6⟩ | ⟨a1, a2, a3, a4, a5, a6⟩
      · have hb := HTA.out
        rw [decide_eq_false (by omega)] at hb
        subst hb
        have a1' : (k0 == 0) = false := by simp [a1]
        clear a1
        go_wp2_with fail
        go_meet
        exact ⟨rfl, rfl⟩
      all_goals
        subst a1
        have hb := HTA.out
        first
          | rw [decide_eq_true (by omega)] at hb
          | rw [decide_eq_false (by omega)] at hb
        subst hb
        go_wp2_with fail
        go_meet
        exact ⟨by first | rfl | (congr 1; simp; omega), rfl⟩
    case rest =>
      as_aux_lemma =>
      obtain ⟨rfl, rfl⟩ := hcut
      obtain ⟨ka, HKA⟩ : ∃ ka : Int, Hid (ka = if ta = true then 1 else k0) := ⟨_, rfl⟩
      go_upto_if 75 with (fail)
      go_cut [11] (fun v wc => v = .int .i64 ka ∧ w4 = wc)
      case first =>
        as_aux_lemma =>
        have ha := HKA.out
        cases ta
        · rw [if_neg (by decide)] at ha
          subst ha
          go_wp2_with fail
          go_meet
          exact ⟨rfl, rfl⟩
        · rw [if_pos rfl] at ha
          subst ha
          go_wp2_with fail
          go_meet
          exact ⟨rfl, rfl⟩
      case rest =>
        as_aux_lemma =>
        obtain ⟨rfl, rfl⟩ := hcut
        have HK : Hid ((ka ≠ 0 ∧ k2 = ka ∧ ys = []) ∨ (ka = 0 ∧ leafsOk xs ∧ tlOk ⟨tl, ti, tw⟩ ∧ ((tlIn n ⟨tl, ti, tw⟩ ∧ k2 = 0 ∧ ys = sumsT xs tl.toNat ti.toNat tw.toNat) ∨ (¬ tlIn n ⟨tl, ti, tw⟩ ∧ k2 = 5 ∧ ys = [])))) := by
          show _ ∨ _
          have e2 := HK2.out
          have ey := HYS.out
          have et := HTA.out
          have ea := HKA.out
          have ek := HK0.out
          unfold tsV at ey
          rw [e2] at ey
          unfold tsK at e2
          rw [HX.out, ek] at e2
          by_cases z : k0 = 0
          · rw [if_neg (by simp [z])] at e2
            by_cases o : tlOk ⟨tl, ti, tw⟩
            · rw [if_neg (by simp [o])] at e2
              rw [decide_eq_false (fun h => h.2 o)] at et
              rw [et, if_neg (by decide), z] at ea
              refine .inr ⟨ea, leafsK_zero (ek.trans z), o, ?_⟩
              by_cases q : tlIn n ⟨tl, ti, tw⟩
              · rw [if_pos q] at e2
                rw [← e2, if_pos rfl] at ey
                exact .inl ⟨q, e2.symm, ey.symm⟩
              · rw [if_neg q] at e2
                rw [← e2, if_neg (by decide)] at ey
                exact .inr ⟨q, e2.symm, ey.symm⟩
            · rw [if_pos o] at e2
              rw [decide_eq_true ⟨z, o⟩] at et
              rw [et, if_pos rfl] at ea
              rw [← e2, if_neg (by decide)] at ey
              exact .inl ⟨by rw [ea]; decide, by rw [← e2, ea], ey.symm⟩
          · rw [if_pos z] at e2
            rw [decide_eq_false (fun h => z h.1)] at et
            rw [et, if_neg (by decide)] at ea
            rw [← e2, if_neg z] at ey
            exact .inl ⟨by rw [ea]; exact z, by rw [← e2, ea], ey.symm⟩
        go_upto_if 77 with (fail)
        go_cut [11, 17] (fun e v wc => e = .int .i64 k2 ∧ OwnN w4 wc v ys ∧ Ext w4 wc)
        case first =>
          as_aux_lemma =>
          rcases HK.out with ⟨a1, a2, a3⟩ | ⟨a1, a2, a3, a4⟩
          · subst a2
            subst a3
            have a1' : (k2 == 0) = false := by simp [a1]
            clear a1
            go_wp2_with fail
            go_meet
            exact ⟨rfl, own_nil _ _ _ _, by (repeat (with_reducible first | exact Ext.refl _ | assumption | refine Ext.drew ?_ | refine Ext.drewN ?_ _ | refine Ext.alloc ?_ _ | refine Ext.trans ?_ (by with_reducible assumption)))⟩
          · subst a1
            have HOT := Lib.hid a3
            obtain ⟨q1, q2, q3, q4, q5⟩ : 0 ≤ tl ∧ tl ≤ 3 ∧ 0 ≤ ti ∧ 1 ≤ tw ∧ tw ≤ 4 := a3
            have HOK := Lib.hid a2
            have hn2 : n ≤ 200 := by have := a2.1; rw [HX.out] at this; exact this
            have HA4 := Lib.hid a4
            obtain ⟨k, rfl⟩ := Int.eq_ofNat_of_zero_le q1
            obtain ⟨i', rfl⟩ := Int.eq_ofNat_of_zero_le q3
            obtain ⟨m, rfl⟩ := Int.eq_ofNat_of_zero_le (show 0 ≤ tw by omega)
            simp only [Int.toNat_natCast] at HA4
            have HIN : Hid (∀ u ∈ allT n 4, holdsT ⟨(k : Int), (i' : Int), (m : Int)⟩ u = true → i' * 4 + m ≤ n / 4 ^ k) := by
              intro u hu h
              have := holds_in HOT.out hu h
              unfold tlIn at this
              simpa using this
            have HALL := Lib.hid (hasT_all (n := n) HOT.out)
            have HTLN := Lib.hid (allT_len n hn2 4)
            obtain ⟨T, HT⟩ : ∃ T, Hid (allT n 4 = T) := ⟨_, rfl⟩
            rw [HT.out] at HIN HALL HTLN
            have hk3 : k ≤ 3 := by omega
            have hm1 : 1 ≤ m := by omega
            have hm4 : m ≤ 4 := by omega
            have htl := HTLN.out
            clear a2 a4 HTLN q1 q2 q3 q4 q5
            go_wp2_with fail
            refine (RTiles_any n _ hn2).mono ?_
            rw [HT.out]
            rintro _ w5 ⟨⟨v5, rfl, own5⟩, hb5⟩
            obtain ⟨A5, c5, rfl, hc5, R5, -⟩ := own_rd own5
            clear own5
            have hlc5 := R5.2.1
            go_wp2_with fail
            go_loopw [11, 17, 19] (fun e v x wr => ∃ j : Nat, x = .int .i64 j ∧ j ≤ T.length ∧ Ext w5 wr ∧ ∃ (hh : Bool) (ev : Int), e = .int .i64 ev ∧ Hid (hh = hasT ⟨(k : Int), (i' : Int), (m : Int)⟩ (T.take j)) ∧ Hid (ev = if hh = true then 0 else 5) ∧ Hid (OwnN w4 wr v (if hh = true then sumsT xs k i' m else []))) (fun _ _ x _ => T.length - (intOf x).toNat)
            case atStart => exact ⟨0, rfl, Nat.zero_le _, by (repeat (with_reducible first | exact Ext.refl _ | assumption | refine Ext.drew ?_ | refine Ext.drewN ?_ _ | refine Ext.alloc ?_ _ | refine Ext.trans ?_ (by with_reducible assumption))), false, 5, rfl, rfl, rfl, own_nil _ _ _ _⟩
            case round =>
              obtain ⟨j, rfl, hj, hbw, hh, ev, rfl, HH, HEV, hown⟩ := hrel
              by_cases hc : j < T.length
              · have hgj := List.getElem?_eq_getElem (l := T) (i := j) hc
                have HMEM := Lib.hid (List.mem_of_getElem? hgj)
                obtain ⟨ad, rfl, hb, d0, d1, d2⟩ := (R5.ext hbw).getT hgj
                have B5 := B4.ext (hb5.trans hbw)
                have b0 := B5.cell 0
                have b1 := B5.cell 1
                have b2 := B5.cell 2
                have HS : Hid (hasT ⟨(k : Int), (i' : Int), (m : Int)⟩ (T.take (j + 1)) = (hh || holdsT ⟨(k : Int), (i' : Int), (m : Int)⟩ T[j])) := by
                  show _ = _
                  rw [List.take_succ_eq_append_getElem hc, hasT_snoc, ← HH.out]
                generalize T[j] = u at *
                obtain ⟨ul, ui, uw⟩ := u
                clear hgj
                have hw : (holdsT ⟨(k : Int), (i' : Int), (m : Int)⟩ ⟨ul, ui, uw⟩ = false ∧ ul ≠ k) ∨ (holdsT ⟨(k : Int), (i' : Int), (m : Int)⟩ ⟨ul, ui, uw⟩ = false ∧ ul = k ∧ ui ≠ i') ∨ (holdsT ⟨(k : Int), (i' : Int), (m : Int)⟩ ⟨ul, ui, uw⟩ = false ∧ ul = k ∧ ui = i' ∧ uw < m) ∨ (holdsT ⟨(k : Int), (i' : Int), (m : Int)⟩ ⟨ul, ui, uw⟩ = true ∧ ul = k ∧ ui = i' ∧ (m : Int) ≤ uw) := by
                  unfold holdsT
                  by_cases e1 : ul = k
                  · by_cases e2 : ui = i'
                    · by_cases e3 : (m : Int) ≤ uw
                      · exact .inr (.inr (.inr ⟨decide_eq_true ⟨e1, e2, e3⟩, e1, e2, e3⟩))
                      · exact .inr (.inr (.inl ⟨decide_eq_false (fun h => e3 h.2.2), e1, e2, by omega⟩))
                    · exact .inr (.inl ⟨decide_eq_false (fun h => e2 h.2.1), e1, e2⟩)
                  · exact .inl ⟨decide_eq_false (fun h => e1 h.1), e1⟩
                rcases hw with ⟨z, e1⟩ | ⟨z, e1, e2⟩ | ⟨z, e1, e2, e3⟩ | ⟨z, e1, e2, e3⟩
                · rw [z, Bool.or_false] at HS
                  have e1' : (ul == (k : Int)) = false := by simp [e1]
                  clear z e1
                  go_wp2_with fail
                  go_quiet (fail)
                  go_wp2_with fail
                  go_roundw
                  case rel => exact ⟨j + 1, by go_num, by omega, by (repeat (with_reducible first | exact Ext.refl _ | assumption | refine Ext.drew ?_ | refine Ext.drewN ?_ _ | refine Ext.alloc ?_ _ | refine Ext.trans ?_ (by with_reducible assumption))), hh, ev, rfl, Lib.hid HS.out.symm, HEV, hown⟩
                  case measure => simp [intOf]; omega
                · subst e1
                  rw [z, Bool.or_false] at HS
                  have e2' : (ui == (i' : Int)) = false := by simp [e2]
                  clear z e2
                  go_wp2_with fail
                  go_quiet (fail)
                  go_wp2_with fail
                  go_roundw
                  case rel => exact ⟨j + 1, by go_num, by omega, by (repeat (with_reducible first | exact Ext.refl _ | assumption | refine Ext.drew ?_ | refine Ext.drewN ?_ _ | refine Ext.alloc ?_ _ | refine Ext.trans ?_ (by with_reducible assumption))), hh, ev, rfl, Lib.hid HS.out.symm, HEV, hown⟩
                  case measure => simp [intOf]; omega
                · subst e1
                  subst e2
                  rw [z, Bool.or_false] at HS
                  clear z
                  go_wp2_with fail
                  go_quiet (fail)
                  go_wp2_with fail
                  go_roundw
                  case rel => exact ⟨j + 1, by go_num, by omega, by (repeat (with_reducible first | exact Ext.refl _ | assumption | refine Ext.drew ?_ | refine Ext.drewN ?_ _ | refine Ext.alloc ?_ _ | refine Ext.trans ?_ (by with_reducible assumption))), hh, ev, rfl, Lib.hid HS.out.symm, HEV, hown⟩
                  case measure => simp [intOf]; omega
                · have HF := Lib.hid (HIN.out _ HMEM.out z)
                  subst e1
                  subst e2
                  rw [z, Bool.or_true] at HS
                  clear z
                  go_wp2_with fail
                  go_quiet (fail)
                  go_wp2_with fail
                  refine (RTileSums_any A n c xs k i' m _ (hr.ext (X4.trans (hb5.trans ?he))) hm HOK.out hk3 hm4 HF.out).mono ?_
                  case he => (repeat (with_reducible first | exact Ext.refl _ | assumption | refine Ext.drew ?_ | refine Ext.drewN ?_ _ | refine Ext.alloc ?_ _ | refine Ext.trans ?_ (by with_reducible assumption)))
                  rintro _ w6 ⟨⟨v6, rfl, own6⟩, hb6⟩
                  have own7 := own6.lower (Ext.trans hb5 (by (repeat (with_reducible first | exact Ext.refl _ | assumption | refine Ext.drew ?_ | refine Ext.drewN ?_ _ | refine Ext.alloc ?_ _ | refine Ext.trans ?_ (by with_reducible assumption))))).size
                  go_wp2_with fail
                  go_roundw
                  case rel => exact ⟨j + 1, by go_num, by omega, by (repeat (with_reducible first | exact Ext.refl _ | assumption | refine Ext.drew ?_ | refine Ext.drewN ?_ _ | refine Ext.alloc ?_ _ | refine Ext.trans ?_ (by with_reducible assumption))), true, 0, rfl, Lib.hid HS.out.symm, rfl, own7⟩
                  case measure => simp [intOf]; omega
              · obtain rfl : j = T.length := by omega
                have HH' := HH.out
                rw [List.take_of_length_le (Nat.le_refl _)] at HH'
                have hfin : ev = k2 ∧ OwnN w4 wr u17 ys := by
                  have o1 := hown.out
                  have o2 := HEV.out
                  rcases HA4.out with ⟨y1, y2, y3⟩ | ⟨y1, y2, y3⟩
                  · have hb := HALL.out.2 y1
                    rw [hb] at HH'
                    rw [HH', if_pos rfl] at o1 o2
                    rw [y2, y3]
                    exact ⟨o2, o1⟩
                  · have hb : hasT ⟨(k : Int), (i' : Int), (m : Int)⟩ T = false := by
                      cases hz : hasT ⟨(k : Int), (i' : Int), (m : Int)⟩ T
                      · rfl
                      · exact absurd (HALL.out.1 hz) y1
                    rw [hb] at HH'
                    rw [HH', if_neg (by decide)] at o1 o2
                    rw [y2, y3]
                    exact ⟨o2, o1⟩
                obtain ⟨rfl, hown'⟩ := hfin
                have HO := Lib.hid hown'
                clear hown' HH'
                go_wp2_with fail
                go_meet
                exact ⟨rfl, HO.out, hb5.trans hbw⟩
        case rest =>
          as_aux_lemma =>
          obtain ⟨rfl, own5, hb5⟩ := hcut
          obtain ⟨A5, c5, rfl, hc5, R5⟩ := own5.rd
          have X5 := X4.trans hb5
          have B5 := B4.ext hb5
          clear own5 b0 b1 b2 B4
          have b0 := B5.cell 0
          have b1 := B5.cell 1
          have b2 := B5.cell 2
          go_wp2_with fail
          refine (TSums_tot A n c xs ⟨tl, ti, tw⟩ _ (hr.ext X5) hm).mono ?_
          rw [HK2.out, HYS.out]
          rintro _ w6 ⟨⟨v6, rfl, own6⟩, hb6⟩
          obtain ⟨A6, c6, rfl, hc6, R6⟩ := own6.rd
          clear own6
          have X6 := X5.trans hb6
          go_wp2_with fail
          refine (Error_same k2 _ (hg.ext X6)).mono ?_
          rintro _ w7 ⟨rfl, hb7⟩
          have X7 := X6.trans hb7
          go_wp2_with fail
          refine (Ints_any A6 A5 _ _ c6 c5 ys ys _ (R6.ext hb7) ((R5.ext hb6).ext hb7) hc6 hc5).mono ?_
          rw [sameB_self]
          rintro _ w8 ⟨rfl, hb8⟩
          have X8 := X7.trans hb8
          clear X4 X5 X6 X7 hb5 hb6 hb7 hb8 B5 b0 b1 b2 R5 R6
          obtain ⟨td, HTD⟩ : ∃ td : Bool, Hid (td = decide (¬ whOk level i)) := ⟨_, rfl⟩
          go_upto_region 28 with (fail)
          go_cut [143] (fun v wc => v = .bool td ∧ w8.alloc (.cells #[.int .i64 0, .int .i64 0, .int .i64 0] 30) = wc)
          case first =>
            as_aux_lemma =>
            have hw : (level < 0 ∧ ¬ whOk level i) ∨ (0 ≤ level ∧ 3 < level ∧ ¬ whOk level i) ∨ (0 ≤ level ∧ level ≤ 3 ∧ i < 0 ∧ ¬ whOk level i) ∨ (0 ≤ level ∧ level ≤ 3 ∧ 0 ≤ i ∧ 199 < i ∧ ¬ whOk level i) ∨ (0 ≤ level ∧ level ≤ 3 ∧ 0 ≤ i ∧ i ≤ 199 ∧ whOk level i) := by unfold whOk; omega
            have hT : ¬ whOk level i → td = true := fun h => HTD.out.trans (decide_eq_true h)
            have hF : whOk level i → td = false := fun h => HTD.out.trans (decide_eq_false (fun g => g h))
            rcases hw with ⟨a2, z⟩ | ⟨a2, a3, z⟩ | ⟨a2, a3, a4, z⟩ | ⟨a2, a3, a4, a5, z⟩ | ⟨a2, a3, a4, a5, z⟩
            · obtain rfl := hT z
              clear hT hF z HTD
              go_wp2_with fail
              go_meet
              exact ⟨rfl, rfl⟩
            · obtain rfl := hT z
              clear hT hF z HTD
              go_wp2_with fail
              go_meet
              exact ⟨rfl, rfl⟩
            · obtain rfl := hT z
              clear hT hF z HTD
              go_wp2_with fail
              go_meet
              exact ⟨rfl, rfl⟩
            · obtain rfl := hT z
              clear hT hF z HTD
              go_wp2_with fail
              go_meet
              exact ⟨rfl, rfl⟩
            · obtain rfl := hF z
              clear hT hF z HTD
              go_wp2_with fail
              go_meet
              exact ⟨by congr 1; simp; omega, rfl⟩
          case rest =>
            as_aux_lemma =>
            obtain ⟨rfl, rfl⟩ := hcut
            go_upto_if 143 with (fail)
            go_cut [11, 24] (fun e a wc => e = .int .i64 k3 ∧ a = .int .i64 at_ ∧ Bk wc w8.heap.size 30 #[.int .i64 ut.level, .int .i64 ut.index, .int .i64 ut.wide] ∧ Ext w8 wc)
            case first =>
              as_aux_lemma =>
              by_cases z : whOk level i
              · have e1 : whK level i = 0 := if_pos z
                have e2 : whT level i = ⟨level, i / 4, i % 4 + 1⟩ := if_pos z
                have e3 : whA level i = i % 4 := if_pos z
                rw [HK3.out] at e1
                rw [HUT.out] at e2
                rw [HAT.out] at e3
                have hb := HTD.out
                rw [decide_eq_false (by simp [z])] at hb
                subst hb
                subst e1
                subst e2
                subst e3
                obtain ⟨z1, z2, z3, z4⟩ := z
                obtain ⟨j, rfl⟩ := Int.eq_ofNat_of_zero_le z3
                go_wp2_with fail
                go_meet
                exact ⟨rfl, rfl, Bk.at_ _ _ _ _ rfl, by (repeat (with_reducible first | exact Ext.refl _ | assumption | refine Ext.drew ?_ | refine Ext.drewN ?_ _ | refine Ext.alloc ?_ _ | refine Ext.trans ?_ (by with_reducible assumption)))⟩
              · have e1 : whK level i = 1 := if_neg z
                have e2 : whT level i = ⟨0, 0, 0⟩ := if_neg z
                have e3 : whA level i = 0 := if_neg z
                rw [HK3.out] at e1
                rw [HUT.out] at e2
                rw [HAT.out] at e3
                have hb := HTD.out
                rw [decide_eq_true (by simp [z])] at hb
                subst hb
                subst e1
                subst e2
                subst e3
                clear z
                go_wp2_with fail
                go_meet
                exact ⟨rfl, rfl, Bk.at_ _ _ _ _ rfl, by (repeat (with_reducible first | exact Ext.refl _ | assumption | refine Ext.drew ?_ | refine Ext.drewN ?_ _ | refine Ext.alloc ?_ _ | refine Ext.trans ?_ (by with_reducible assumption)))⟩
            case rest =>
              as_aux_lemma =>
              obtain ⟨rfl, rfl, B9, hb9⟩ := hcut
              have X9 := X8.trans hb9
              go_wp2_with fail
              refine (Where_any level i _).mono ?_
              rw [HUT.out, HAT.out, HK3.out]
              rintro _ wa ⟨rfl, hba⟩
              have Xa := X9.trans hba
              have Ba := B9.ext hba
              clear X8 X9 hb9 hba B9
              rw [show ut.cells.toArray = #[.int .i64 ut.level, .int .i64 ut.index, .int .i64 ut.wide] from rfl]
              go_upto_region 33 with (fail)
              have Bb : Bk (wa.alloc (.cells #[.int .i64 ut.level, .int .i64 ut.index, .int .i64 ut.wide] 30)) wa.heap.size 30 #[.int .i64 ut.level, .int .i64 ut.index, .int .i64 ut.wide] := Bk.at_ _ _ _ _ rfl
              have Bc := Ba.alloc (.cells #[.int .i64 ut.level, .int .i64 ut.index, .int .i64 ut.wide] 30)
              have Xc := Xa.alloc (.cells #[.int .i64 ut.level, .int .i64 ut.index, .int .i64 ut.wide] 30)
              generalize wa.alloc (.cells #[.int .i64 ut.level, .int .i64 ut.index, .int .i64 ut.wide] 30) = wc' at *
              clear Ba Xa
              go_wp2_with fail
              refine (Error_same k3 _ (hg.ext Xc)).mono ?_
              rintro _ wd ⟨rfl, hbd⟩
              have Xd := Xc.trans hbd
              have Bd := Bb.ext hbd
              have Be := Bc.ext hbd
              clear Bb Bc Xc hbd
              have y0 := Bd.cell 0
              have y1 := Bd.cell 1
              have y2 := Bd.cell 2
              have z0 := Be.cell 0
              have z1 := Be.cell 1
              have z2 := Be.cell 2
              generalize ut.level = ul at *
              generalize ut.index = ui at *
              generalize ut.wide = uw at *
              go_wp2_with fail
              go_ret
              exact ⟨ret_bool (by first | rfl | simp), Xd⟩
end Go.Proofs.YtgfkalhpefjenaaDoor.tileTells
