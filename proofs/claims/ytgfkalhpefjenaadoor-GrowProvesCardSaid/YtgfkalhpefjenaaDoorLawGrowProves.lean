import Derived.Test.YtgfkalhpefjenaaDoorR5
import Derived.Test.YtgfkalhpefjenaaDoorTot2
import Derived.Test.YtgfkalhpefjenaaDoorComes
namespace Go.Proofs.YtgfkalhpefjenaaDoor.growProves
open Go.RowKit Go.WideShapes
set_option linter.unusedVariables false
attribute [local go_sem ↓] Go.wp_at_zero Go.wp_at_succ

theorem fact_k : gmK [5, 6, 7] 2 3 = 0 := gmK_ok ⟨by decide, by decide⟩ ⟨by decide, by decide, by decide⟩
theorem fact_v : gmV [5, 6, 7] 2 3 = [7] := by
  have h3 : half 3 = 2 := by decide
  unfold gmV
  rw [if_pos fact_k]
  show growL [5, 6, 7] 2 true = [7]
  rw [growL_left (xs := [5, 6, 7]) true (by decide) (by decide) (by decide) (by show 2 ≤ half 3; rw [h3]; omega)]
  show growL (List.take (half 3) [5, 6, 7]) 2 true ++ [ofL (List.drop (half 3) [5, 6, 7])] = [7]
  rw [h3]
  show growL [5, 6] 2 true ++ [ofL [7]] = [7]
  rw [growL_whole (by rfl), ofL_one]
  rfl
theorem three_rd (w : World) : Rd (w.alloc (.cells #[.int .i64 5, .int .i64 6, .int .i64 7] 3)) 1 (some ⟨w.heap.size, 0, none⟩) 3 3 (([5, 6, 7] : List Int).map (Value.int .i64)) :=
  ⟨rfl, Nat.le_refl _, fun _ => ⟨_, rfl, by simp, news_new w 3 _ _ rfl⟩⟩
theorem gcheck_0 {r1 r : Int} {o n : Nat} {p : List Int} (h : 1 ≤ o) (h2 : o ≤ n) (h3 : n ≤ 200) (h4 : vld r1 = true) (h5 : vld r = true) (h6 : allV p = true) (h7 : p.length = gsteps o n true) (h8 : groots r1 o n p true = (r1, r)) : gcheck r1 o r n p = 0 := by
  unfold gcheck
  rw [if_neg (by omega), if_neg (by simp [h4, h5, h6]), Int.toNat_natCast, Int.toNat_natCast, if_neg (by omega), if_neg (by simp [h8])]
theorem gcheck_8 {r1 r : Int} {o n : Nat} {p : List Int} (h : 1 ≤ o) (h2 : o ≤ n) (h3 : n ≤ 200) (h4 : vld r1 = true) (h5 : vld r = true) (h6 : allV p = true) (h7 : p.length = gsteps o n true) (h8 : groots r1 o n p true ≠ (r1, r)) : gcheck r1 o r n p = 8 := by
  unfold gcheck
  rw [if_neg (by omega), if_neg (by simp [h4, h5, h6]), Int.toNat_natCast, Int.toNat_natCast, if_neg (by omega), if_pos h8]
/-- the law -/
theorem law {xs : List Int} {o m : Nat} {other : Int} (h : 1 ≤ o) (h2 : o ≤ m) (hm : m ≤ xs.length) (hk : leafsOk xs) (hv : vld other = true) :
    gcheck (ofL (xs.take o)) o (ofL (xs.take m)) m (growL (xs.take m) o true) = 0 ∧
    (other = ofL (xs.take m) ∨ gcheck (ofL (xs.take o)) o other m (growL (xs.take m) o true) = 8) ∧
    (other = ofL (xs.take o) ∨ gcheck other o (ofL (xs.take m)) m (growL (xs.take m) o true) = 8 ∨ (gcheck other o (ofL (xs.take m)) m (growL (xs.take m) o true) = 0 ∧ ofL (xs.take o) ≠ other ∧ chainL (ofL (xs.take o)) (growL (xs.take m) o true) = chainL other (growL (xs.take m) o true))) := by
  have hx := hk.1
  have hlm : (xs.take m).length = m := by rw [List.length_take]; omega
  have hvm := allV_take hk.2 m
  have va : vld (ofL (xs.take o)) = true := vld_ofL (allV_take hk.2 o) (by rw [List.length_take]; omega)
  have vb : vld (ofL (xs.take m)) = true := vld_ofL hvm (by omega)
  have hlen := growL_len m (xs.take m) o true (by omega) h (by omega) (by omega)
  have hvp := growL_vld m (xs.take m) o true (by omega) h (by omega) (by omega) hvm
  have hg := groots_grow m (ofL (xs.take o)) (xs.take m) o true (by omega) h (by omega) (by omega) (fun _ => by rw [List.take_take, Nat.min_eq_left h2])
  rw [List.take_take, Nat.min_eq_left h2, hlm] at hg
  rw [hlm] at hlen
  have hw := groots_ways m o m (growL (xs.take m) o true) (by omega) h h2 (by omega) hlen
  generalize growL (xs.take m) o true = p at *
  generalize ofL (xs.take o) = a at *
  generalize ofL (xs.take m) = b at *
  have hm2 : m ≤ 200 := by omega
  refine ⟨gcheck_0 h h2 hm2 va vb hvp hlen hg, ?_, ?_⟩
  · by_cases e : other = b
    · exact .inl e
    · refine .inr (gcheck_8 h h2 hm2 va hv hvp hlen ?_)
      rw [hg]
      intro e'
      exact e (Prod.mk.inj e').2.symm
  · by_cases e : other = a
    · exact .inl e
    · rcases hw with hw | hw
      · by_cases e2 : chainL other p = b
        · refine .inr (.inr ⟨gcheck_0 h h2 hm2 hv vb hvp hlen (by rw [hw other, e2]), fun e' => e e'.symm, ?_⟩)
          rw [hw a] at hg
          rw [e2]; exact (Prod.mk.inj hg).2
        · refine .inr (.inl (gcheck_8 h h2 hm2 hv vb hvp hlen ?_))
          rw [hw other]
          intro e'
          exact e2 (Prod.mk.inj e').2
      · refine .inr (.inl (gcheck_8 h h2 hm2 hv vb hvp hlen ?_))
        rw [hw other a, hg]
        intro e'
        exact e (Prod.mk.inj e').1.symm

set_option maxRecDepth 100000 in
set_option maxHeartbeats 8000000 in
theorem walk (A : Option Addr) (n c : Nat) (xs : List Int) (o m other : Int) (w : World) (hl : xs.length = n) (hm : c ≤ maxLen) (hr : Rd w 1 A n c (xs.map (Value.int .i64))) (hgd : ∀ y ∈ xs, igood y) (h0 : igood o) (h1 : igood m) (h2 : igood other) (hg : ErrG w) :
    Calls Tryd.prog 14 #[.slice A n c, .int .i64 o, .int .i64 m, .int .i64 other] w fun e w' => e = .returned (.bool true) ∧ Ext w w' := by
  have hlc := hr.2.1
  obtain ⟨k0, e0⟩ : ∃ k, k = gmK xs o m := ⟨_, rfl⟩
  obtain ⟨ys, e2⟩ : ∃ ys, ys = gmV xs o m := ⟨_, rfl⟩
  have HV : Hid (k0 = 0 → leafsOk xs ∧ 1 ≤ o ∧ o ≤ m ∧ m ≤ (n : Int) ∧ ys = growL (xs.take m.toNat) o.toNat true) := by
    intro h
    have h' := h
    rw [e0] at h'
    have hz := h'
    unfold gmK at hz
    split at hz
    · exact absurd hz (by assumption)
    · split at hz
      · rename_i a1 a2
        refine ⟨leafsK_zero (Classical.not_not.1 a1), a2.1, a2.2.1, by omega, ?_⟩
        rw [e2]; unfold gmV; rw [if_pos h']
      · cases hz
  have E0 := Lib.hid e0.symm
  have E2 := Lib.hid e2.symm
  have HX := Lib.hid hl
  have F1 := Lib.hid fact_k
  have F2 := Lib.hid fact_v
  clear e0 e2 hl hgd h0 h1 h2
  go_enter Tryd.func14, Tryd.ntmps14
  go_wp2_with fail
  refine (GMake_any _ 3 3 [5, 6, 7] 2 3 _ (three_rd w) (by simp [maxLen])).mono ?_
  rw [F1.out, F2.out, errR_0]
  rintro _ w1 ⟨⟨v1, rfl, own1⟩, hb1⟩
  obtain ⟨A1, c1, rfl, hc1, R1⟩ := own1.rd
  clear own1
  have X1 : Ext w w1 := by (repeat (with_reducible first | exact Ext.refl _ | assumption | refine Ext.drew ?_ | refine Ext.drewN ?_ _ | refine Ext.alloc ?_ _ | refine Ext.trans ?_ (by with_reducible assumption)))
  obtain ⟨ad1, rfl, hbk1, hcell1⟩ := R1.getI (j := 0) (z := 7) rfl
  rw [add_zero'] at hcell1
  go_wp2_with fail
  refine (GMake_any A n c xs o m _ (hr.ext X1) hm).mono ?_
  rw [E0.out, E2.out]
  rintro _ w2 ⟨⟨v2, rfl, own2⟩, hb2⟩
  obtain ⟨A2, c2, rfl, hc2, R2⟩ := own2.rd
  clear own2
  have X2 := X1.trans hb2
  clear hb1 hb2 X1
  by_cases hk : k0 = 0
  · subst hk
    obtain ⟨b0, b1, b2, b3, b4⟩ := HV.out rfl
    obtain ⟨m, rfl⟩ := Int.eq_ofNat_of_zero_le (show 0 ≤ m by omega)
    obtain ⟨o, rfl⟩ := Int.eq_ofNat_of_zero_le (show 0 ≤ o by omega)
    rw [Int.toNat_natCast, Int.toNat_natCast] at b4
    have B0 := Lib.hid b0
    have B4 := Lib.hid b4
    have hn2 : n ≤ 200 := by have := b0.1; rw [HX.out] at this; exact this
    have q1 : (m : Int) ≤ (c : Int) := by omega
    have q2 : (o : Int) ≤ (c : Int) := by omega
    clear b0 b4
    simp only [errR]
    go_wp2_with fail
    refine (Root_ok A o c (xs.take o) _ ((hr.ext X2).takeI (by omega)) hm ⟨by rw [List.length_take]; omega, allV_take B0.out.2 o⟩).mono ?_
    rintro _ w3 ⟨rfl, hb3⟩
    have X3 := X2.trans hb3
    go_wp2_with fail
    refine (Root_ok A m c (xs.take m) _ ((hr.ext X3).takeI (by omega)) hm ⟨by rw [List.length_take]; omega, allV_take B0.out.2 m⟩).mono ?_
    rintro _ w4 ⟨rfl, hb4⟩
    have X4 := X3.trans hb4
    have R4 := (R2.ext hb3).ext hb4
    have HG : Hid (gcheck (ofL (xs.take o)) o (ofL (xs.take m)) m ys = 0) := by
      show _ = _
      rw [B4.out]
      exact (law (other := 0) (by omega) (by omega) (by rw [HX.out]; omega) B0.out (by decide)).1
    have HL : Hid (vld other = true → (other = ofL (xs.take m) ∨ gcheck (ofL (xs.take o)) o other m ys = 8) ∧ (other = ofL (xs.take o) ∨ gcheck other o (ofL (xs.take m)) m ys = 8 ∨ (gcheck other o (ofL (xs.take m)) m ys = 0 ∧ ofL (xs.take o) ≠ other ∧ chainL (ofL (xs.take o)) ys = chainL other ys)) ∧ vld (ofL (xs.take o)) = true ∧ allV ys = true) := by
      intro hv
      rw [B4.out]
      refine ⟨(law (by omega) (by omega) (by rw [HX.out]; omega) B0.out hv).2.1, (law (by omega) (by omega) (by rw [HX.out]; omega) B0.out hv).2.2, vld_ofL (allV_take B0.out.2 o) (by rw [List.length_take]; omega), ?_⟩
      have := HX.out
      exact growL_vld m (xs.take m) o true (by rw [List.length_take]; omega) (by omega) (by rw [List.length_take]; omega) (by rw [List.length_take]; omega) (allV_take B0.out.2 m)
    generalize ofL (xs.take o) = a at *
    generalize ofL (xs.take m) = b at *
    clear hb3 hb4 X2 X3 R2
    go_wp2_with fail
    refine (GCheck_any a o b m A2 _ c2 ys _ R4 hc2).mono ?_
    rw [HG.out]
    rintro _ w5 ⟨rfl, hb5⟩
    have X5 := X4.trans hb5
    have R5 := R4.ext hb5
    clear hb5 X4 R4 HG
    simp only [errR]
    by_cases hv0 : other < 0
    · go_wp2_with fail
      go_ret
      exact ⟨rfl, X5⟩
    · by_cases hv1 : 2147483647 ≤ other
      · go_wp2_with fail
        go_ret
        exact ⟨rfl, X5⟩
      · obtain ⟨W1, W2, W3, W4⟩ := HL.out (vld_mk ⟨by omega, by omega⟩)
        have HO := Lib.hid (vld_mk (n := other) ⟨by omega, by omega⟩)
        obtain ⟨g1, HG1⟩ : ∃ g, Hid (gcheck a o other m ys = g) := ⟨_, rfl⟩
        obtain ⟨g2, HG2⟩ : ∃ g, Hid (gcheck other o b m ys = g) := ⟨_, rfl⟩
        rw [HG1.out] at W1
        rw [HG2.out] at W2
        have H1 := Lib.hid W1
        have H2 := Lib.hid W2
        have H3 := Lib.hid W3
        have H4 := Lib.hid W4
        clear W1 W2 W3 W4 HL
        go_wp2_with fail
        refine (GCheck_any a o other m A2 _ c2 ys _ R5 hc2).mono ?_
        rw [HG1.out]
        rintro _ w6 ⟨rfl, hb6⟩
        have X6 := X5.trans hb6
        go_wp2_with fail
        refine (Error_any g1 8 _ (hg.ext X6)).mono ?_
        rintro _ w7 ⟨rfl, hb7⟩
        have X7 := X6.trans hb7
        have R7 := (R5.ext hb6).ext hb7
        clear hb6 hb7 X5 X6 R5
        go_wp2_with fail
        refine (GCheck_any other o b m A2 _ c2 ys _ R7 hc2).mono ?_
        rw [HG2.out]
        rintro _ w8 ⟨rfl, hb8⟩
        have X8 := X7.trans hb8
        go_wp2_with fail
        refine (Error_any g2 8 _ (hg.ext X8)).mono ?_
        rintro _ w9 ⟨rfl, hb9⟩
        have X9 := X8.trans hb9
        have R9 := (R7.ext hb8).ext hb9
        clear hb8 hb9 X7 X8 R7
        obtain ⟨x1, HX1⟩ : ∃ g, Hid (errIs g1 8 = g) := ⟨_, rfl⟩
        obtain ⟨y1, HY1⟩ : ∃ g, Hid (errIs g2 8 = g) := ⟨_, rfl⟩
        rw [HX1.out, HY1.out]
        have I1 : Hid (other = b ∨ x1 = true) := by
          show _ ∨ _
          rcases H1.out with h | h
          · exact .inl h
          · exact .inr (HX1.out.symm.trans (by rw [h]; rfl))
        have I2 : Hid (other = a ∨ y1 = true ∨ (y1 = false ∧ a ≠ other ∧ chainL a ys = chainL other ys)) := by
          show _ ∨ _
          rcases H2.out with h | h | ⟨h, h', h''⟩
          · exact .inl h
          · exact .inr (.inl (HY1.out.symm.trans (by rw [h]; rfl)))
          · exact .inr (.inr ⟨HY1.out.symm.trans (by rw [h]; rfl), h', h''⟩)
        have J1 : Hid (other = b ∨ (¬ other = b ∧ x1 = true)) := by
          show _ ∨ _
          by_cases h : other = b
          · exact .inl h
          · exact .inr ⟨h, I1.out.resolve_left h⟩
        have J2 : Hid (other = a ∨ (¬ other = a ∧ y1 = true) ∨ (¬ other = a ∧ y1 = false ∧ a ≠ other ∧ chainL a ys = chainL other ys)) := by
          show _ ∨ _
          by_cases h : other = a
          · exact .inl h
          · rcases I2.out.resolve_left h with h' | h'
            · exact .inr (.inl ⟨h, h'⟩)
            · exact .inr (.inr ⟨h, h'⟩)
        clear H1 H2 I1 I2
        go_upto_region 17 with (fail)
        rcases J1.out with rfl | ⟨ob, rfl⟩
        all_goals
          clear J1
          rcases J2.out with rfl | ⟨oa, rfl⟩ | ⟨oa, rfl, hne, hch⟩
          all_goals
            clear J2
        · go_wp2_with fail
          go_ret
          exact ⟨ret_bool (by first | rfl | simp), X9⟩
        · go_wp2_with fail
          go_ret
          exact ⟨ret_bool (by first | rfl | simp), X9⟩
        · have HNE := Lib.hid hne
          have HCH := Lib.hid hch
          clear hne hch
          go_wp2_with fail
          refine (Comes_ok A2 _ c2 ys a other _ R9 hc2 H3.out HO.out H4.out HNE.out HCH.out).mono ?_
          rintro _ wa ⟨rfl, hba⟩
          have Xa := X9.trans hba
          go_wp2_with fail
          go_ret
          exact ⟨ret_bool (by first | rfl | simp), Xa⟩
        · go_wp2_with fail
          go_ret
          exact ⟨ret_bool (by first | rfl | simp), X9⟩
        · go_wp2_with fail
          go_ret
          exact ⟨ret_bool (by first | rfl | simp), X9⟩
        · have HNE := Lib.hid hne
          have HCH := Lib.hid hch
          clear hne hch
          go_wp2_with fail
          refine (Comes_ok A2 _ c2 ys a other _ R9 hc2 H3.out HO.out H4.out HNE.out HCH.out).mono ?_
          rintro _ wa ⟨rfl, hba⟩
          have Xa := X9.trans hba
          go_wp2_with fail
          go_ret
          exact ⟨ret_bool (by first | rfl | simp), Xa⟩
  · have hk' := errR_ne hk
    rw [hk']
    simp only [errV]
    go_wp2_with fail
    go_ret
    exact ⟨rfl, X2⟩
end Go.Proofs.YtgfkalhpefjenaaDoor.growProves
