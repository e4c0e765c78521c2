import Derived.Test.YtnafegofmbhahaaDoorRStore2
import Derived.Test.YtnafegofmbhahaaDoorPairsSame
import Derived.Test.YtnafegofmbhahaaDoorError
import Derived.Deep.DeepCutAuto
import Derived.Deep.CutRange
namespace Go.Proofs.YtnafegofmbhahaaDoor.storePlays
open Go.RowKit
set_option linter.unusedVariables false
attribute [local go_sem ↓] Go.wp_at_zero Go.wp_at_succ

/-- a store, and a list beside it, of the same pairs -/
def PS (w wc : World) (sb : Nat) (es : List Pr) (vm : Value) : Prop :=
  Ext w wc ∧ ∃ v, StAt wc w.heap.size sb v es ∧ wc.ownsRow w.heap.size 25 3 vm es.length (es.flatMap Pr.cells) ∧ (∀ g, vm.ownBlock = some g → v.ownBlock ≠ some g)
theorem PS.ext {w wc wd : World} {sb : Nat} {es : List Pr} {vm : Value} (h : PS w wc sb es vm) (k : Ext wc wd) : PS w wd sb es vm := by
  obtain ⟨e, v, hs, ho, hd⟩ := h
  exact ⟨e.trans k, v, hs.ext k, own_ext ho k, hd⟩
/-- the list is the next one, the store is not yet -/
def PS2 (w wc : World) (sb : Nat) (es es' : List Pr) (vm : Value) : Prop :=
  Ext w wc ∧ ∃ v, StAt wc w.heap.size sb v es ∧ wc.ownsRow w.heap.size 25 3 vm es'.length (es'.flatMap Pr.cells) ∧ (∀ g, vm.ownBlock = some g → v.ownBlock ≠ some g)
theorem PS2.ext {w wc wd : World} {sb : Nat} {es es' : List Pr} {vm : Value} (h : PS2 w wc sb es es' vm) (k : Ext wc wd) : PS2 w wd sb es es' vm := by
  obtain ⟨e, v, hs, ho, hd⟩ := h
  exact ⟨e.trans k, v, hs.ext k, own_ext ho k, hd⟩
theorem ps2_step {w wc wd : World} {sb : Nat} {es es' : List Pr} {vm v v' : Value} (e : Ext w wc) (hs : StAt wc w.heap.size sb v es) (ho : wc.ownsRow w.heap.size 25 3 vm es'.length (es'.flatMap Pr.cells)) (hd : ∀ g, vm.ownBlock = some g → v.ownBlock ≠ some g)
    (hs' : StAt wd w.heap.size sb v' es') (k : Chg wc wd (fun k => k = sb ∨ v.ownBlock = some k)) (hv : ∀ g, v'.ownBlock = some g → v.ownBlock = some g ∨ wc.heap.size ≤ g) : PS w wd sb es' vm := by
  refine ⟨Chg.keep e hs (Nat.le_refl _) k, v', hs', own_chg ho k fun g hg hS => ?_, fun g hg hg' => ?_⟩
  · rcases hS with rfl | hS
    · exact own_type ho hs.bk (by decide) hg
    · exact hd g hg hS
  · rcases hv g hg' with h | h
    · exact hd g hg h
    · have := (ho.lt _ hg).2
      omega
theorem PS2.box {w wc wd : World} {sb pb : Nat} {v : Value} {es : List Pr} {cs : Array Value} (hs : StAt wc w.heap.size sb v es) (hb : Bk wc pb 25 cs) (hne : v.ownBlock ≠ some pb) (k : Chg wc wd (fun k => k = sb ∨ v.ownBlock = some k)) : Bk wd pb 25 cs := by
  refine hb.chg k ?_
  rintro (rfl | h)
  · unfold Bk at hb
    have h2 := hs.bk
    unfold Bk at h2
    rw [hb] at h2
    simp at h2
  · exact hne h
def inR (a b : ByteArray) (p : Pr) : Bool := !(kLt p.key a) && kLt p.key b
theorem low_zero {p : Pr} {es : List Pr} {key : ByteArray} (h : Asc (p :: es)) (hp : kLt p.key key = false) : lowN es key = 0 := by
  have h1 := lowN_cons p es key
  rw [hp, if_neg (by decide), Nat.add_zero] at h1
  rcases Nat.eq_zero_or_pos (lowN es key) with h0 | h0
  · exact h0
  · have := (low_side h key).1 0 p (by omega) rfl
    rw [hp] at this; cases this
theorem range_filter (a b : ByteArray) : ∀ {es : List Pr}, Asc es → es.filter (inR a b) = rangeL es a b
  | [], _ => by simp [rangeL]
  | p :: es, h => by
    have ih := range_filter a b h.tail
    unfold rangeL at ih ⊢
    rw [lowN_cons, lowN_cons, List.filter_cons, ih]
    unfold inR
    cases ha : kLt p.key a with
    | true =>
      rw [if_pos rfl, if_neg (by simp)]
      cases hb : kLt p.key b with
      | true => rw [if_pos rfl, List.drop_succ_cons, Nat.add_sub_add_right]
      | false =>
        rw [if_neg (by decide), low_zero h hb]
        simp
    | false =>
      have hz := low_zero h ha
      rw [hz]
      cases hb : kLt p.key b with
      | true => simp
      | false =>
        have hz2 := low_zero h hb
        rw [hz2]
        simp
theorem getK_two (es : List Pr) (key : ByteArray) : getK es key = 0 ∨ getK es key = 5 := by
  unfold getK gK
  split
  · split
    · exact .inr rfl
    · exact .inl rfl
  · exact .inr rfl

set_option maxRecDepth 100000 in
set_option maxHeartbeats 2000000 in
theorem walk (A : Option Addr) (n c : Nat) (l : List Pr) (ka kb : ByteArray) (w : World) (hx : l.length = n) (m : c ≤ maxLen) (R : Rd w 3 A n c (l.flatMap Pr.cells)) (z1 : ka.size ≤ 140737488355328) (z2 : kb.size ≤ 140737488355328) (hg : ErrG w) :
    Calls Tryd.prog 7 #[.slice A n c, .string ka, .string kb] w fun e w' => e = .returned (.bool true) ∧ Ext w w' := by
  obtain ⟨hE, hN, hG⟩ := errR_rules
  have hms : c ≤ 9223372036854775807 := by unfold maxLen at m; omega
  have HX := Lib.hid hx
  have HLL := Lib.hid R.2.1
  have HR := Lib.hid R
  clear hx m R
  go_enter Tryd.func7, Tryd.ntmps7
  go_wp2_with fail
  refine (SNew_any w.heap.size w (Nat.le_refl _)).mono ?_
  rintro _ w1 ⟨rfl, S1, e1⟩
  obtain ⟨sb, hsb⟩ : ∃ sb, w.heap.size = sb := ⟨_, rfl⟩
  have HP1 : Hid (PS w w1 sb [] (.slice none 0 0)) := Lib.hid ⟨e1, _, by rw [← hsb]; exact S1, own_nil _ _ _ _, fun g hg => by simp [Value.ownBlock] at hg⟩
  have HSB := Lib.hid hsb
  rw [hsb]
  clear S1 hsb e1
  go_wp2_with fail
  go_loopw [8, 9, 10, 11, 12, 13, 14, 15, 16, 17, 18] (fun vm y _ _ _ _ _ _ _ _ _ wr => ∃ (i : Nat) (es : List Pr), y = .int .i64 i ∧ i ≤ n ∧ i ≤ 80 ∧ Hid (PS w wr sb es vm)) (fun _ y _ _ _ _ _ _ _ _ _ _ => n - (intOf y).toNat)
  case atStart => exact ⟨0, [], rfl, Nat.zero_le _, Nat.zero_le _, HP1⟩
  case round =>
    clear HP1
    obtain ⟨i, es, rfl, hi, hi8, HPS⟩ := hrel
    by_cases hc : i < n ∧ i < 80
    · obtain ⟨hc1, hc2⟩ := hc
      have hgj := List.getElem?_eq_getElem (l := l) (i := i) (by rw [HX.out]; exact hc1)
      obtain ⟨ad, rfl, hb0, d0, d1, d2⟩ := (HR.out.ext HPS.out.1).getP hgj
      generalize l[i]'(by rw [HX.out]; exact hc1) = q at *
      obtain ⟨pk, pv, pg⟩ := q
      simp only at d0 d1 d2
      have HA := HLL.out
      have hci : (i : Int) < 80 := by omega
      have P3 := Bk.at_ wr 25 #[.string pk, .string pv, .bool pg] wr.heap.size rfl
      have e3 : Ext wr (wr.alloc (.cells #[.string pk, .string pv, .bool pg] 25)) := (Ext.refl _).alloc _
      have HP3 := Lib.hid (HPS.out.ext e3)
      obtain ⟨pb, hpb⟩ : ∃ pb, wr.heap.size = pb := ⟨_, rfl⟩
      have hne3 : ∀ v, (wr.ownsRow w.heap.size 25 3 v es.length (es.flatMap Pr.cells)) → v.ownBlock ≠ some pb := fun v ho hv => by
        have := (ho.lt _ hv).2
        omega
      have HN3 := Lib.hid hne3
      obtain ⟨v3, hv3⟩ : ∃ v3 : ByteArray, (if pg = true then ⟨#[]⟩ else pv) = v3 := ⟨_, rfl⟩
      have HV3 := Lib.hid hv3
      have HP3' := Lib.hid P3
      have p2 : (wr.alloc (.cells #[.string pk, .string pv, .bool pg] 25)).cell? ⟨wr.heap.size, 2, none⟩ = some (.bool pg) := P3.cell 2
      have p1 : (wr.alloc (.cells #[.string pk, .string pv, .bool pg] 25)).cell? ⟨wr.heap.size, 1, none⟩ = some (.string pv) := P3.cell 1
      have f1 : (wr.alloc (.cells #[.string pk, .string pv, .bool pg] 25)).frozen? ⟨wr.heap.size, 1, none⟩ = false := P3.frozen 1
      clear hgj hne3 hv3 P3
      go_upto_if 39 with (fail)
      generalize wr.alloc (.cells #[.string pk, .string pv, .bool pg] 25) = W3 at *
      rw [hpb] at HP3' p1 p2 f1
      try rw [hpb]
      go_cut [6] (fun _ wc => Ext wr wc ∧ Hid (Bk wc pb 25 #[.string pk, .string v3, .bool pg]))
      case first =>
        as_aux_lemma =>
        have hpl : wr.heap.size ≤ pb := Nat.le_of_eq hpb
        cases pg with
        | true =>
          have hv3 := HV3.out
          rw [if_pos rfl] at hv3
          subst hv3
          go_wp2_with fail
          go_meet
          exact ⟨e3.setCell (p := ⟨pb, 1, none⟩) hpl (.string ⟨#[]⟩), HP3'.out.set_ 1 (.string ⟨#[]⟩)⟩
        | false =>
          have hv3 := HV3.out
          rw [if_neg (by decide)] at hv3
          subst hv3
          go_wp2_with fail
          go_meet
          exact ⟨e3, HP3'.out⟩
      case rest =>
      as_aux_lemma =>
      obtain ⟨e4, HB4⟩ := hcut
      have hgv : pg = true → v3.size = 0 := fun h => by rw [← HV3.out, if_pos h]; rfl
      have HGV := Lib.hid hgv
      obtain ⟨eW, v, hs0, ho0, hd⟩ := HPS.out
      have hvb : v.ownBlock ≠ some pb := fun hv => by
        have := (hs0.own.lt _ hv).2
        omega
      have eA := eW.trans e4
      have hs := hs0.ext e4
      have ho := own_ext ho0 e4
      have HS := Lib.hid hs
      have HO := Lib.hid ho
      have HD := Lib.hid hd
      have b0 : wc.cell? ⟨pb, 0, none⟩ = some (.string pk) := HB4.out.cell 0
      have b1 : wc.cell? ⟨pb, 1, none⟩ = some (.string v3) := HB4.out.cell 1
      have b2 : wc.cell? ⟨pb, 2, none⟩ = some (.bool pg) := HB4.out.cell 2
      have HC := Lib.hid (RSPut_any w.heap.size u8 es ⟨pk, v3, pg⟩ wc ho eA.size hs.asc (by have := hs.len; omega))
      obtain ⟨k, hk⟩ : ∃ k, putK es ⟨pk, v3, pg⟩ = k := ⟨_, rfl⟩
      rw [hk] at HC
      have HK := Lib.hid hk
      have HVB := Lib.hid hvb
      clear hs ho hd hk hgv d0 d1 d2 p1 p2 f1 hvb hs0 ho0
      go_wp2_with fail
      refine HC.out.mono ?_
      rintro _ w5 ⟨⟨vm', rfl, ho5, hf5⟩, hb5⟩
      have eB := eA.trans hb5
      have HS5 := Lib.hid (HS.out.ext hb5)
      have HO5 := Lib.hid ho5
      have HB5 := Lib.hid (HB4.out.ext hb5)
      have HD5 : Hid (∀ g, vm'.ownBlock = some g → v.ownBlock ≠ some g) := Lib.hid fun g hg hg' => by
        rcases hf5 g hg with h | h
        · exact HD.out g h hg'
        · have := (HS.out.own.lt _ hg').2
          omega
      have c0 : w5.cell? ⟨pb, 0, none⟩ = some (.string pk) := HB5.out.cell 0
      have c1 : w5.cell? ⟨pb, 1, none⟩ = some (.string v3) := HB5.out.cell 1
      have c2 : w5.cell? ⟨pb, 2, none⟩ = some (.bool pg) := HB5.out.cell 2
      clear ho5 hf5 HC b0 b1 b2
      go_upto_if 49 with (fail)
      go_cut [13] (fun u wc => u = .bool true ∧ Hid (PS w wc sb (storeL es ⟨pk, v3, pg⟩) vm') ∧ Hid (Bk wc pb 25 #[.string pk, .string v3, .bool pg]))
      case first =>
        as_aux_lemma =>
        cases pg with
        | true =>
          obtain rfl := str_noneP (HGV.out rfl)
          have HC := Lib.hid (SDrop_any w.heap.size sb v es pk w5 HS5.out eB.size)
          rw [HK.out] at HC
          go_wp2_with fail
          refine HC.out.mono ?_
          rintro _ w6 ⟨rfl, v6, S6, c6, hv6⟩
          have HP6 := Lib.hid (ps2_step eB HS5.out HO5.out HD5.out S6 c6 hv6)
          have HB6 := Lib.hid (PS2.box HS5.out HB5.out HVB.out c6)
          have e6 := HP6.out.1
          clear S6 c6 hv6 HC
          go_wp2_with fail
          refine (Error_is k _ (hg.ext e6)).mono ?_
          rintro _ w7 ⟨rfl, hb7⟩
          go_wp2_with fail
          go_meet
          exact ⟨rfl, HP6.out.ext hb7, HB6.out.ext hb7⟩
        | false =>
          have HC := Lib.hid (SPut_any w.heap.size sb v es pk v3 w5 HS5.out eB.size)
          rw [HK.out] at HC
          go_wp2_with fail
          refine HC.out.mono ?_
          rintro _ w6 ⟨rfl, v6, S6, c6, hv6⟩
          have HP6 := Lib.hid (ps2_step eB HS5.out HO5.out HD5.out S6 c6 hv6)
          have HB6 := Lib.hid (PS2.box HS5.out HB5.out HVB.out c6)
          have e6 := HP6.out.1
          clear S6 c6 hv6 HC
          go_wp2_with fail
          refine (Error_is k _ (hg.ext e6)).mono ?_
          rintro _ w7 ⟨rfl, hb7⟩
          go_wp2_with fail
          go_meet
          exact ⟨rfl, HP6.out.ext hb7, HB6.out.ext hb7⟩
      case rest =>
      as_aux_lemma =>
      obtain ⟨rfl, HP6, HB6⟩ := hcut
      obtain ⟨es', hes'⟩ : ∃ es', storeL es ⟨pk, v3, pg⟩ = es' := ⟨_, rfl⟩
      rw [hes'] at HP6
      obtain ⟨e6, v6, S6, o6, d6⟩ := id HP6.out
      obtain ⟨ne, hne⟩ : ∃ k, es'.length = k := ⟨_, rfl⟩
      rw [hne] at o6
      obtain ⟨Am, cm, rfl, hcm, Rm, -⟩ := own_rd o6
      have HG := Lib.hid (RSGet_any Am ne cm es' pk _ Rm hcm S6.asc)
      have HSG := Lib.hid fun W (k : Ext _ W) => SGet_any w.heap.size sb v6 es' pk W (S6.ext k)
      have HSL := Lib.hid fun W (k : Ext _ W) => SLen_any w.heap.size sb v6 es' W (S6.ext k)
      have h60 := S6.len
      have hlm := Rm.2.1
      have z0 := HB6.out.cell 0
      have g2 := getK_two es' pk
      obtain ⟨gv, hgv⟩ : ∃ x, getV es' pk = x := ⟨_, rfl⟩
      obtain ⟨gk, hgk⟩ : ∃ x, getK es' pk = x := ⟨_, rfl⟩
      rw [hgv, hgk] at HG HSG
      rw [hne] at HSL h60
      rw [hgk] at g2
      have hcm2 : cm ≤ 9223372036854775807 := by unfold maxLen at hcm; omega
      have Z0 : wc.cell? ⟨pb, 0, none⟩ = some (.string pk) := z0
      clear hgv hgk hne o6 Rm S6 d6 z0 c0 c1 c2 hes'
      rcases g2 with rfl | rfl
      · rw [show isOk 0 = true from rfl] at HG
        rw [errR_0] at HSG
        go_wp2_with fail
        refine HG.out.mono ?_
        rintro _ _ ⟨rfl, rfl⟩
        go_wp2_with fail
        refine (HSG.out _ (Ext.refl _)).mono ?_
        rintro _ w8 ⟨rfl, hb8⟩
        have e8 := e6.trans hb8
        go_wp2_with fail
        refine (Error_is 0 _ (hg.ext e8)).mono ?_
        rintro _ w9 ⟨rfl, hb9⟩
        go_wp2_with fail
        refine (HSL.out _ (hb8.trans hb9)).mono ?_
        rintro _ _ ⟨rfl, rfl⟩
        have HPF := Lib.hid ((HP6.out.ext hb8).ext hb9)
        go_wp2_with fail
        go_roundw
        case rel => exact ⟨i + 1, es', by go_num, by omega, by omega, HPF⟩
        case measure => simp [intOf]; omega
      · rw [show isOk 5 = false from rfl] at HG
        go_wp2_with fail
        refine HG.out.mono ?_
        rintro _ _ ⟨rfl, rfl⟩
        go_wp2_with fail
        refine (HSG.out _ (Ext.refl _)).mono ?_
        rintro _ w8 ⟨rfl, hb8⟩
        have e8 := e6.trans hb8
        go_wp2_with fail
        refine (Error_is 5 _ (hg.ext e8)).mono ?_
        rintro _ w9 ⟨rfl, hb9⟩
        go_wp2_with fail
        refine (HSL.out _ (hb8.trans hb9)).mono ?_
        rintro _ _ ⟨rfl, rfl⟩
        have HPF := Lib.hid ((HP6.out.ext hb8).ext hb9)
        go_wp2_with fail
        go_roundw
        case rel => exact ⟨i + 1, es', by go_num, by omega, by omega, HPF⟩
        case measure => simp [intOf]; omega
    · have hci : ¬ ((i : Int) < (n : Int)) ∨ ((i : Int) < (n : Int) ∧ ¬ (i : Int) < 80) := by omega
      clear hc
      go_upto_region 4 with (fail)
      go_cut [31] from 24 to 31 (fun v wc => v = .bool false ∧ wr = wc)
      case first =>
        as_aux_lemma =>
        rcases hci with h | ⟨h, h2⟩
        · go_wp2_with fail
          go_meet
          exact ⟨rfl, rfl⟩
        · go_wp2_with fail
          go_meet
          exact ⟨rfl, rfl⟩
      case rest =>
      as_aux_lemma =>
      obtain ⟨rfl, rfl⟩ := hcut
      obtain ⟨eW, v, hs, ho, hd⟩ := HPS.out
      obtain ⟨ne, hne⟩ : ∃ k, es.length = k := ⟨_, rfl⟩
      have h60 := hs.len
      rw [hne] at ho h60
      obtain ⟨Am, cm, rfl, hcm, Rm, -⟩ := own_rd ho
      have hlm := Rm.2.1
      have HS := Lib.hid hs
      have HRM := Lib.hid Rm
      have HNE := Lib.hid hne
      have HA := Lib.hid (SAll_any w.heap.size sb v es _ hs)
      rw [hne] at HA
      clear hs ho hd hne hci Rm
      go_wp2_with fail
      refine HA.out.mono ?_
      rintro _ w6 ⟨⟨v6, rfl, o6⟩, hb6⟩
      obtain ⟨A6, c6, rfl, -, R6, -⟩ := own_rd o6
      have HP := Lib.hid (Pairs_same A6 Am ne c6 cm es _ R6 (HRM.out.ext hb6) (by omega))
      clear o6 R6 HA
      go_wp2_with fail
      refine HP.out.mono ?_
      rintro _ w7 ⟨rfl, hb7⟩
      have E7 := (eW.trans hb6).trans hb7
      have HS7 := Lib.hid ((HS.out.ext hb6).ext hb7)
      have HRM7 := Lib.hid ((HRM.out.ext hb6).ext hb7)
      have H0 : Hid (w7.ownsRow w7.heap.size 25 3 (.slice none 0 0) ((es.take 0).filter (inR ka kb)).length (((es.take 0).filter (inR ka kb)).flatMap Pr.cells)) := own_nil _ _ _ _
      have hcm2 : cm ≤ 9223372036854775807 := by unfold maxLen at hcm; omega
      clear HP HPS
      go_wp2_with fail
      go_loopw [20, 21] (fun o y wr => ∃ j : Nat, y = .int .i64 j ∧ j ≤ ne ∧ Ext w7 wr ∧ Hid (wr.ownsRow w7.heap.size 25 3 o ((es.take j).filter (inR ka kb)).length (((es.take j).filter (inR ka kb)).flatMap Pr.cells))) (fun _ y _ => ne - (intOf y).toNat)
      case atStart => exact ⟨0, rfl, Nat.zero_le _, Ext.refl _, H0⟩
      case round =>
        obtain ⟨j, rfl, hj, hbw, hown⟩ := hrel
        by_cases hcj : j < ne
        · obtain ⟨q, hq⟩ : ∃ q, es[j]? = some q := ⟨_, List.getElem?_eq_getElem (by rw [HNE.out]; exact hcj)⟩
          obtain ⟨ad, rfl, hbl, y0, y1, y2⟩ := (HRM7.out.ext hbw).getP hq
          have hnx : (es.take (j + 1)).filter (inR ka kb) = (es.take j).filter (inR ka kb) ++ if inR ka kb q = true then [q] else [] := by
            rw [take_step hq, List.filter_append]
            congr 1
            rw [List.filter_cons, List.filter_nil]
          obtain ⟨qk, qv, qg⟩ := q
          simp only at y0 y1 y2
          have HNX := Lib.hid hnx
          clear hnx hq
          cases hla : kLt qk ka with
          | true =>
            have hb1 : Op.bytesLess qk.toList ka.toList = true := by rw [kLt_op]; exact hla
            have O7 : Hid (wr.ownsRow w7.heap.size 25 3 u20 ((es.take (j + 1)).filter (inR ka kb)).length (((es.take (j + 1)).filter (inR ka kb)).flatMap Pr.cells)) := by
              show World.ownsRow _ _ _ _ _ _ _
              rw [HNX.out, if_neg (by unfold inR; rw [show (⟨qk, qv, qg⟩ : Pr).key = qk from rfl, hla]; simp), List.append_nil]
              exact hown.out
            clear hla
            go_wp2_with fail
            go_roundw
            case rel => exact ⟨j + 1, by go_num, by omega, hbw, O7⟩
            case measure => simp [intOf]; omega
          | false =>
            have hb1 : Op.bytesLess qk.toList ka.toList = false := by rw [kLt_op]; exact hla
            cases hlb : kLt qk kb with
            | false =>
              have hb2 : Op.bytesLess qk.toList kb.toList = false := by rw [kLt_op]; exact hlb
              have O7 : Hid (wr.ownsRow w7.heap.size 25 3 u20 ((es.take (j + 1)).filter (inR ka kb)).length (((es.take (j + 1)).filter (inR ka kb)).flatMap Pr.cells)) := by
                show World.ownsRow _ _ _ _ _ _ _
                rw [HNX.out, if_neg (by unfold inR; rw [show (⟨qk, qv, qg⟩ : Pr).key = qk from rfl, hlb]; simp), List.append_nil]
                exact hown.out
              clear hla hlb
              go_wp2_with fail
              go_roundw
              case rel => exact ⟨j + 1, by go_num, by omega, hbw, O7⟩
              case measure => simp [intOf]; omega
            | true =>
              have hb2 : Op.bytesLess qk.toList kb.toList = true := by rw [kLt_op]; exact hlb
              have hif : inR ka kb ⟨qk, qv, qg⟩ = true := by unfold inR; rw [show (⟨qk, qv, qg⟩ : Pr).key = qk from rfl, hla, hlb]; rfl
              have HIF := Lib.hid hif
              obtain ⟨kk, hkk⟩ : ∃ k, ((es.take j).filter (inR ka kb)).length = k := ⟨_, rfl⟩
              have hk60 : kk ≤ 60 := by
                have h1 := List.length_filter_le (inR ka kb) (es.take j)
                have h2 : (es.take j).length ≤ j := by rw [List.length_take]; omega
                omega
              have ow := hown.out
              rw [hkk] at ow
              have HKK := Lib.hid hkk
              have e3 : Ext wr (wr.alloc (.cells #[.string qk, .string qv, .bool qg] 25)) := (Ext.refl _).alloc _
              have O3 := Lib.hid (own_ext ow e3)
              have e3w := hbw.trans e3
              have hb3 := e3w.size
              obtain ⟨i0, hi0, hz0, hzs, hzb⟩ := info_parts info_pair
              clear ow hkk hif hla hlb
              go_wp2_with (at_builtin; go_loud (refine wpList_append_own _ rfl _ _ 22 rfl w7.heap.size 25 i0 _ 3 40 Tryd.underlying22 hi0 hz0 hzs hzb rfl (by omega) u20 kk _ rfl O3.out ⟨wr.heap.size, 0, none⟩ 1 1 [.string qk, .string qv, .bool qg] (by rfl) rfl (news_new wr _ _ _ rfl) (by intro u hu; simp at hu; rcases hu with rfl | rfl | rfl <;> rfl) (by unfold maxLen; omega) (by omega) hb3 ?_); intro v8 w8 own8 hg8 hH8; clear hH8; have E8 := own_grown O3.out hg8 w7 (Nat.le_refl _) e3w)
              have O8 : Hid (w8.ownsRow w7.heap.size 25 3 v8 ((es.take (j + 1)).filter (inR ka kb)).length (((es.take (j + 1)).filter (inR ka kb)).flatMap Pr.cells)) := by
                show World.ownsRow _ _ _ _ _ _ _
                rw [HNX.out, if_pos HIF.out, List.length_append, HKK.out, List.flatMap_append]
                exact own8
              clear own8
              go_roundw
              case rel => exact ⟨j + 1, by go_num, by omega, E8, O8⟩
              case measure => simp [intOf]; omega
        · obtain rfl : j = ne := by omega
          have ow := hown.out
          rw [List.take_of_length_le (by rw [HNE.out]; exact Nat.le_refl _), range_filter ka kb HS7.out.asc] at ow
          have HRC := Lib.hid (SRange_any w.heap.size sb v es ka kb wr (HS7.out.ext hbw))
          have hrl := range_len es ka kb
          rw [HNE.out] at hrl
          generalize rangeL es ka kb = L at *
          obtain ⟨kk, hkk⟩ : ∃ k, L.length = k := ⟨_, rfl⟩
          rw [hkk] at HRC ow hrl
          obtain ⟨A9, c9, rfl, hc9, R9, -⟩ := own_rd ow
          have HR9 := Lib.hid R9
          clear ow hown R9 hkk
          go_wp2_with fail
          refine HRC.out.mono ?_
          rintro _ w8 ⟨⟨v8, rfl, o8⟩, hb8⟩
          obtain ⟨A8, c8, rfl, hc8, R8, -⟩ := own_rd o8
          have HPC := Lib.hid (Pairs_same A8 A9 kk c8 c9 L w8 R8 (HR9.out.ext hb8) (by omega))
          clear o8 R8
          go_wp2_with fail
          refine HPC.out.mono ?_
          rintro _ w11 ⟨rfl, hb11⟩
          go_wp2_with fail
          go_ret
          exact ⟨rfl, ((E7.trans hbw).trans hb8).trans hb11⟩
end Go.Proofs.YtnafegofmbhahaaDoor.storePlays
