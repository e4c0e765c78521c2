/- lsm.live: lists laid over one another. -/
import Derived.Test.YtnafegofmbhahaaDoorLsm3
import Derived.Test.YtnafegofmbhahaaDoorLsmM
namespace Go.Proofs.YtnafegofmbhahaaDoor
open Go.RowKit Go.WideShapes
set_option linter.unusedVariables false
attribute [local go_sem ↓] Go.wp_at_zero Go.wp_at_succ

/-- lists of pairs, each as a slice that can be read -/
def RdLs (w : World) (vs : List Value) (T : List (List Pr)) : Prop :=
  vs.length = T.length ∧ ∀ (i : Nat) (v : Value) (es : List Pr), vs[i]? = some v → T[i]? = some es → ∃ A c, v = .slice A es.length c ∧ c ≤ maxLen ∧ Rd w 3 A es.length c (es.flatMap Pr.cells)
theorem RdLs.ext {w w' : World} {vs : List Value} {T : List (List Pr)} (h : RdLs w vs T) (k : Ext w w') : RdLs w' vs T :=
  ⟨h.1, fun i v es hv hT => by
    obtain ⟨A, c, e, hc, hr⟩ := h.2 i v es hv hT
    exact ⟨A, c, e, hc, hr.ext k⟩⟩

/-- of so many lists, and of the next one so many pairs -/
def outL (T : List (List Pr)) (i j : Nat) : List Pr := ((T.take i).flatten ++ ((T[i]?.getD []).take j)).foldl addL []
theorem outL_zero (T : List (List Pr)) (i : Nat) : outL T i 0 = ((T.take i).flatten).foldl addL [] := by simp [outL]
theorem outL_step {T : List (List Pr)} {i j : Nat} {es : List Pr} {p : Pr} (h : T[i]? = some es) (hp : es[j]? = some p) : outL T i (j + 1) = addL (outL T i j) p := by
  unfold outL
  rw [h, Option.getD_some, take_step hp, ← List.append_assoc, List.foldl_append]
  rfl
theorem outL_end {T : List (List Pr)} {i : Nat} {es : List Pr} (h : T[i]? = some es) : outL T i es.length = outL T (i + 1) 0 := by
  obtain ⟨h1, h2⟩ := List.getElem?_eq_some_iff.1 h
  unfold outL
  rw [h, Option.getD_some, List.take_of_length_le (Nat.le_refl _), List.take_zero, List.append_nil, List.take_succ_eq_append_getElem h1, h2, List.flatten_append]
  simp
theorem outL_all {T : List (List Pr)} : ngL (outL T T.length 0) = liveL T := by
  unfold outL liveL mergeL
  rw [List.take_of_length_le (Nat.le_refl _), List.take_zero, List.append_nil]
  rfl
theorem outL_asc (T : List (List Pr)) (i j : Nat) : Asc (outL T i j) := fold_asc _ _ Asc.nil
theorem outL_len {T : List (List Pr)} {i j : Nat} : (outL T i j).length ≤ (T.take i).flatten.length + j := by
  have h := fold_len ((T.take i).flatten ++ ((T[i]?.getD []).take j)) []
  unfold outL
  rw [List.length_append, List.length_take] at h
  simp only [List.length_nil] at h
  omega
theorem take_tot : ∀ {T : List (List Pr)} {i : Nat} {es : List Pr}, T[i]? = some es → (T.take i).flatten.length + es.length ≤ totL T
  | [], i, es, h => by simp at h
  | l :: T, 0, es, h => by
    obtain rfl : l = es := by simpa using h
    rw [totL_cons]
    simp
  | l :: T, i + 1, es, h => by
    have ih := take_tot (T := T) (i := i) (es := es) (by simpa using h)
    rw [totL_cons, List.take_succ_cons, List.flatten_cons, List.length_append]
    omega

set_option maxRecDepth 100000 in
set_option maxHeartbeats 2000000 in
theorem live_any (A : Option Addr) (n c : Nat) (vs : List Value) (T : List (List Pr)) (w : World) (hr : Rd w 1 A n c vs) (hm : c ≤ maxLen) (hl : RdLs w vs T) (htot : totL T ≤ 1000) :
    Calls Tryd.prog 91 #[.slice A n c] w fun e w' => (∃ v', e = .returned v' ∧ w'.ownsRow w.heap.size 25 3 v' (liveL T).length ((liveL T).flatMap Pr.cells)) ∧ Ext w w' := by
  have hvl : vs.length = n := by have := hr.1; omega
  have hTl : T.length = n := hl.1.symm.trans hvl
  have HT := Lib.hid hTl
  have HV := Lib.hid hvl
  have HL := Lib.hid hl
  have HTOT := Lib.hid htot
  have hnc := hr.2.1
  have H0 : Hid (w.ownsRow w.heap.size 25 3 (.slice none 0 0) (outL T 0 0).length ((outL T 0 0).flatMap Pr.cells)) := own_nil _ _ _ _
  clear hl hvl hTl htot
  unfold maxLen at hm
  go_enter Tryd.func91, Tryd.ntmps91
  go_wp2_with fail
  go_loopw [3, 5, 7, 8, 9, 12] (fun o _ _ _ _ x wr => ∃ i : Nat, x = .int .i64 i ∧ i ≤ n ∧ Ext w wr ∧ Hid (wr.ownsRow w.heap.size 25 3 o (outL T i 0).length ((outL T i 0).flatMap Pr.cells))) (fun _ _ _ _ _ x _ => n - (intOf x).toNat)
  case atStart => exact ⟨0, rfl, Nat.zero_le _, Ext.refl _, H0⟩
  case round =>
    obtain ⟨i, rfl, hi, hbw, hown⟩ := hrel
    by_cases hc : i < n
    · obtain ⟨ev, hev⟩ : ∃ v, vs[i]? = some v := ⟨_, List.getElem?_eq_getElem (by rw [HV.out]; exact hc)⟩
      obtain ⟨es, hes⟩ : ∃ es, T[i]? = some es := ⟨_, List.getElem?_eq_getElem (by rw [HT.out]; exact hc)⟩
      obtain ⟨ad, rfl, hb, c0⟩ := (hr.ext hbw).at_ hev
      obtain ⟨A1, c1, rfl, hc1, hr1⟩ := HL.out.2 i _ es hev hes
      obtain ⟨m, hm1⟩ : ∃ m, es.length = m := ⟨_, rfl⟩
      have HES := Lib.hid hes
      have HM := Lib.hid hm1
      have hm3 : m ≤ 1000 := by
        have h1 := take_tot hes
        have h2 := HTOT.out
        omega
      have hmc := hr1.2.1
      rw [hm1] at c0 hr1 hmc
      have HR1 := Lib.hid hr1
      unfold maxLen at hc1
      clear hes hm1 hev hr1
      go_wp2_with fail
      go_loopw [3, 7, 8, 9, 18] (fun o _ _ _ x wr => ∃ j : Nat, x = .int .i64 j ∧ j ≤ m ∧ Ext w wr ∧ Hid (wr.ownsRow w.heap.size 25 3 o (outL T i j).length ((outL T i j).flatMap Pr.cells))) (fun _ _ _ _ x _ => m - (intOf x).toNat)
      case atStart => exact ⟨0, rfl, Nat.zero_le _, hbw, hown⟩
      case round =>
        obtain ⟨j, rfl, hj, hbw2, hown2⟩ := hrel
        by_cases hc2 : j < m
        · obtain ⟨p, hp⟩ : ∃ p, es[j]? = some p := ⟨_, List.getElem?_eq_getElem (by rw [HM.out]; exact hc2)⟩
          obtain ⟨ad1, rfl, hb1, y0, y1, y2⟩ := (HR1.out.ext hbw2).getP hp
          have hst := outL_step HES.out hp
          have hol := outL_len (T := T) (i := i) (j := j)
          have hasc := outL_asc T i j
          have htt := take_tot HES.out
          rw [HM.out] at htt
          have htt2 := HTOT.out
          generalize outL T i j = O at *
          obtain ⟨k, hk⟩ : ∃ k, O.length = k := ⟨_, rfl⟩
          rw [hk] at hol
          have hk1 : k ≤ 1000 := by omega
          have ow := hown2.out
          rw [hk] at ow
          obtain ⟨A2, c2, rfl, hc3, hr2, -⟩ := own_rd ow
          obtain ⟨pk, pv, pg⟩ := p
          simp only at y0 y1 y2
          have HST := Lib.hid hst
          have HK := Lib.hid hk
          have HASC := Lib.hid hasc
          have HOW := Lib.hid ow
          have P3 := Bk.at_ wr 25 #[.string pk, .string pv, .bool pg] wr.heap.size rfl
          have e3 : Ext w (wr.alloc (.cells #[.string pk, .string pv, .bool pg] 25)) := hbw2.alloc _
          have e3r : Ext wr (wr.alloc (.cells #[.string pk, .string pv, .bool pg] 25)) := (Ext.refl _).alloc _
          have z0 : (wr.alloc (.cells #[.string pk, .string pv, .bool pg] 25)).cell? ⟨wr.heap.size, 0, none⟩ = some (.string pk) := P3.cell 0
          have HR2 := Lib.hid (hr2.ext e3r)
          clear hst hk hasc ow hown2 hr2 htt htt2 hol hp
          go_upto_region 8 with (fail)
          generalize wr.alloc (.cells #[.string pk, .string pv, .bool pg] 25) = W3 at *
          go_wp2_with fail
          refine (Find_any A2 k c2 O pk _ HR2.out hc3 (by omega) HASC.out).mono ?_
          obtain ⟨lo, HLO⟩ : ∃ x, Hid (lowN O pk = x) := ⟨_, rfl⟩
          obtain ⟨hb9, HHB⟩ : ∃ x, Hid (hasB O pk = x) := ⟨_, rfl⟩
          rw [HLO.out, HHB.out]
          rintro _ w4 ⟨rfl, hb4⟩
          have e4 := e3.trans hb4
          have P4 := P3.ext hb4
          have OW4 := Lib.hid (own_ext (own_ext HOW.out e3r) hb4)
          cases hb9 with
          | true =>
            have HN : Hid (w4.ownsRow w.heap.size 25 3 (.slice A2 k c2) (outL T i (j + 1)).length ((outL T i (j + 1)).flatMap Pr.cells)) := by
              show World.ownsRow _ _ _ _ _ _ _
              rw [HST.out, show addL O ⟨pk, pv, pg⟩ = O from if_pos HHB.out, HK.out]
              exact OW4.out
            clear P3 z0
            go_wp2_with fail
            go_roundw
            case rel => exact ⟨j + 1, by go_num, by omega, e4, HN⟩
            case measure => simp [intOf]; omega
          | false =>
            have hlo : lo ≤ k := by rw [← HLO.out, ← HK.out]; exact lowN_le _ _
            have q0 : w4.cell? ⟨wr.heap.size, 0, none⟩ = some (.string pk) := P4.cell 0
            have q1 : w4.cell? ⟨wr.heap.size, 1, none⟩ = some (.string pv) := P4.cell 1
            have q2 : w4.cell? ⟨wr.heap.size, 2, none⟩ = some (.bool pg) := P4.cell 2
            clear P3 z0 P4
            go_wp2_with fail
            have P5 := Bk.at_ w4 25 #[.string pk, .string pv, .bool pg] w4.heap.size rfl
            have e5 : Ext w4 (w4.alloc (.cells #[.string pk, .string pv, .bool pg] 25)) := (Ext.refl _).alloc _
            refine (Insert_own w.heap.size k lo w4.heap.size (.slice A2 k c2) (O.flatMap Pr.cells) #[.string pk, .string pv, .bool pg] _ hlo (by omega) (e4.trans e5).size (own_ext OW4.out e5) rfl P5 ?_ (cells_one O) ?_).mono ?_
            · intro e'
              have := OW4.out.lt _ e'
              omega
            · intro u hu
              simp at hu
              rcases hu with rfl | rfl | rfl <;> rfl
            · rintro _ w6 ⟨g, cap, rfl, own6, hg6, -⟩
              have HN : Hid (w6.ownsRow w.heap.size 25 3 (.slice (some ⟨g, 0, none⟩) (k + 1) cap) (outL T i (j + 1)).length ((outL T i (j + 1)).flatMap Pr.cells)) := by
                show World.ownsRow _ _ _ _ _ _ _
                rw [HST.out, show addL O ⟨pk, pv, pg⟩ = insL O lo ⟨pk, pv, pg⟩ from (if_neg (by rw [HHB.out]; decide)).trans (by rw [HLO.out]), ins_len (by rw [HK.out]; exact hlo), HK.out, ← cells_ins]
                exact own6
              have e6 := own_grown (own_ext OW4.out e5) hg6 w (Nat.le_refl _) (e4.trans e5)
              clear own6 hg6 P5
              go_wp2_with fail
              go_roundw
              case rel => exact ⟨j + 1, by go_num, by omega, e6, HN⟩
              case measure => simp [intOf]; omega
        · obtain rfl : j = m := by omega
          have HN := Lib.hid hown2.out
          rw [← HM.out, outL_end HES.out] at HN
          clear hown2 hc2
          go_wp2_with fail
          go_roundw
          case rel => exact ⟨i + 1, by go_num, by omega, hbw2, HN⟩
          case measure => simp [intOf]; omega
    · obtain rfl : i = n := by omega
      have hOl := outL_all (T := T)
      have hol := outL_len (T := T) (i := T.length) (j := 0)
      rw [HT.out] at hOl hol
      have h3 : (T.take i).flatten.length ≤ totL T := by
        rw [List.take_of_length_le (by rw [HT.out]; exact Nat.le_refl _), List.length_flatten]; exact Nat.le_refl _
      have h4 := HTOT.out
      have HOL := Lib.hid hOl
      generalize outL T i 0 = O at *
      have HC := Lib.hid (DeleteGone_any w.heap.size O.length _ O wr (by omega) rfl hown.out)
      have HOW := Lib.hid hown.out
      clear hown hOl hol h3 h4
      go_wp2_with fail
      refine HC.out.mono ?_
      rintro _ w5 ⟨⟨v', rfl, ho⟩, hg⟩
      rw [HOL.out] at ho
      have HO := Lib.hid ho
      have e5 := own_grown HOW.out hg w (Nat.le_refl _) hbw
      clear ho
      go_wp2_with fail
      go_ret
      exact ⟨⟨v', rfl, HO.out⟩, e5⟩
end Go.Proofs.YtnafegofmbhahaaDoor
