/- ForkTells: the walk. -/
import Derived.Test.YtelcabjhbgkfmaaDoorFindF
import Derived.Test.YtelcabjhbgkfmaaDoorForkP
import Derived.Test.YtelcabjhbgkfmaaDoorR5
import Derived.Test.YtelcabjhbgkfmaaDoorError
import Derived.Test.YtelcabjhbgkfmaaDoorRVerify
import Derived.Deep.DeepCutAuto
import Derived.Deep.CutRange
import Derived.Deep.CutBlock
namespace Go.Proofs.YtelcabjhbgkfmaaDoor.forkTells
open Go.RowKit Go.WideShapes
set_option linter.unusedVariables false
attribute [local go_sem ↓] Go.wp_at_zero Go.wp_at_succ

theorem verK_vals (h : Hd) (key : Int) : verK h key = 0 ∨ verK h key = 1 ∨ verK h key = 9 := by
  unfold verK
  split
  · split
    · exact .inl rfl
    · exact .inr (.inr rfl)
  · exact .inr (.inl rfl)
theorem verL_vals (key : Int) : ∀ l : List Hd, verL key l = 0 ∨ verL key l = 1 ∨ verL key l = 9
  | [] => .inl rfl
  | h :: l => by
    rw [verL]
    split
    · exact verL_vals key l
    · exact verK_vals h key
/-- the fault ahead of the search -/
def finK (key : Int) (l : List Hd) (n : Nat) : Int := if 20 < n then 4 else verL key l
theorem fin_find {key : Int} {l : List Hd} (h : finK key l l.length ≠ 0) : findV l key = (0, 0, finK key l l.length) := by
  unfold finK at h ⊢
  by_cases h1 : 20 < l.length
  · rw [if_pos h1, findV_many h1]
  · rw [if_neg h1] at h ⊢
    exact findV_ill h1 h
theorem fin_well {key : Int} {l : List Hd} (h : finK key l l.length = 0) : findV l key = pairV (fK l l.length 0) := by
  unfold finK at h
  by_cases h1 : 20 < l.length
  · rw [if_pos h1] at h; cases h
  · rw [if_neg h1] at h
    exact findV_well h1 h
/-- the faults of the first j -/
def FL (key : Int) (l : List Hd) (fin : Int) (j : Nat) (f : Int) : Prop := (f = 0 ∧ fin = verL key l ∧ ∀ (i : Nat) (y : Hd), i < j → l[i]? = some y → verK y key = 0) ∨ (f ≠ 0 ∧ f = fin)

set_option maxRecDepth 100000 in
set_option maxHeartbeats 4000000 in
theorem walk (a b : Hd) (key : Int) (A : Option Addr) (m c : Nat) (ps : List Int) (A' : Option Addr) (n c' : Nat) (l : List Hd) (w : World)
    (ga : a.good) (gb : b.good) (gk : igood key) (hp : ps.length = m) (hc : c ≤ maxLen) (hr : Rd w 1 A m c (ps.map (Value.int .i64))) (gp : ∀ y ∈ ps, igood y)
    (hl : l.length = n) (hc' : c' ≤ maxLen) (hr' : Rd w 4 A' n c' (l.flatMap Hd.cells)) (gl : ∀ y ∈ l, y.good) (hD : DebG w) (hP : PowG w) (hg : ErrG w) :
    Calls Tryd.prog 7 #[a.val, b.val, .int .i64 key, .slice A m c, .slice A' n c'] w fun e w' => e = .returned (.bool true) ∧ Ext w w' := by
  obtain ⟨hE, hN, hG0⟩ := errR_rules
  have hmc := hr.2.1
  have hnc := hr'.2.1
  have hcs : c ≤ 9223372036854775807 := by unfold maxLen at hc; omega
  have hcs' : c' ≤ 9223372036854775807 := by unfold maxLen at hc'; omega
  have HVA := Lib.hid fun W => RVerify_any a key W
  have HVB := Lib.hid fun W => RVerify_any b key W
  have HVX := Lib.hid fun x W => RVerify_any x key W
  have HPR := Lib.hid fun W (e : Ext w W) => Proves_any a b key W (hD.ext e) (hP.ext e)
  have HGC := Lib.hid fun W (e : Ext w W) => RGrowCheck_any a.root a.size b.root b.size A m c ps W (hr.ext e) hc
  have HG := Lib.hid hg
  have HR' := Lib.hid hr'
  have HX := Lib.hid hl
  obtain ⟨va, hva⟩ : ∃ v, verK a key = v := ⟨_, rfl⟩
  obtain ⟨vb, hvb⟩ : ∃ v, verK b key = v := ⟨_, rfl⟩
  obtain ⟨bk, hbk⟩ : ∃ v, bothK a b key = v := ⟨_, rfl⟩
  obtain ⟨gk', hgk⟩ : ∃ v, gcheck a.root a.size b.root b.size ps = v := ⟨_, rfl⟩
  obtain ⟨sb, hsb⟩ : ∃ v, splB a b = v := ⟨_, rfl⟩
  have HB1 : Hid (va ≠ 0 → bk = va) := Lib.hid fun h => by rw [← hbk, ← hva]; exact if_pos (by rw [hva]; exact h)
  have HB2 : Hid (va = 0 → bk = vb) := Lib.hid fun h => by rw [← hbk, ← hvb]; exact if_neg (by rw [hva]; exact not_not_intro h)
  obtain ⟨cb, ck, hck⟩ : ∃ x y, chk a b key ps = (x, y) := ⟨_, _, rfl⟩
  have HK : Hid (chkX a b bk gk' m = (cb, ck)) := by rw [← hck, ← hbk, ← hgk, ← hp]; exact rfl
  have HCK : Hid (∀ W, Ext w W → Calls Tryd.prog 36 #[a.val, b.val, .int .i64 key, .slice A m c] W fun e w' => e = .returned (.tuple #[.bool cb, errR ck]) ∧ Ext W w') := Lib.hid fun W e => by
    have h := FCheck_any a b key A m c ps W (hD.ext e) (hP.ext e) (hg.ext e) (hr.ext e) hc
    rw [hck] at h
    exact h
  obtain ⟨pb, hpb⟩ : ∃ v, prvB a b key = v := ⟨_, rfl⟩
  have HPB : Hid (pb = (isOk bk && sb)) := by rw [← hpb, ← hbk, ← hsb]; exact rfl
  have HSB : Hid (sb = (decide (a.size = b.size) && !decide (a.root = b.root))) := by rw [← hsb]; exact rfl
  obtain ⟨fx, fy, fe, hfv⟩ : ∃ x y z, findV l key = (x, y, z) := ⟨_, _, _, rfl⟩
  have HFI : Hid (∀ W, Ext w W → Calls Tryd.prog 37 #[.slice A' n c', .int .i64 key] W fun e w' => e = .returned (.tuple #[.int .i64 fx, .int .i64 fy, errR fe]) ∧ Ext W w') := Lib.hid fun W e => by
    have h := FFind_any A' n c' l key W (hD.ext e) (hP.ext e) (hr'.ext e) hc'
    rw [hfv] at h
    exact h
  obtain ⟨fin, hfin⟩ : ∃ v, finK key l n = v := ⟨_, rfl⟩
  have HF1 : Hid (fin ≠ 0 → fx = 0 ∧ fy = 0 ∧ fe = fin) := Lib.hid fun h => by
    have h1 := fin_find (l := l) (key := key) (by rw [hl, hfin]; exact h)
    rw [hfv, hl, hfin] at h1
    injection h1 with h2 h3
    injection h3 with h3 h4
    exact ⟨h2, h3, h4⟩
  have HF2 : Hid (fin = 0 → pairV (fK l n 0) = (fx, fy, fe)) := Lib.hid fun h => by
    have h1 := fin_well (l := l) (key := key) (by rw [hl, hfin]; exact h)
    rw [hfv, hl] at h1
    exact h1.symm
  have HF3 : Hid (20 < n → fin = 4) := Lib.hid fun h => by rw [← hfin]; exact if_pos h
  have HF4 : Hid (¬ 20 < n → fin = verL key l) := Lib.hid fun h => by rw [← hfin]; exact if_neg h
  have HF5 : Hid (fin ≠ 5) := Lib.hid (by
    rw [← hfin]; unfold finK
    split
    · decide
    · rcases verL_vals key l with h | h | h <;> rw [h] <;> decide)
  rw [hva] at HVA
  rw [hvb] at HVB
  rw [hbk, hpb] at HPR
  rw [hgk] at HGC
  clear hva hvb hbk hgk hsb hck hpb hfv hfin ga gb gk gp gl hD hP hg hr hr' hl hp
  obtain ⟨a0, a1, a2, a3⟩ := a
  obtain ⟨b0, b1, b2, b3⟩ := b
  simp only [Hd.val] at *
  have A0 := Bk.at_ w 40 #[.int .i64 a0, .int .i64 a1, .int .i64 a2, .int .i64 a3] w.heap.size rfl
  have B1 := Bk.at_ (w.alloc (.cells #[.int .i64 a0, .int .i64 a1, .int .i64 a2, .int .i64 a3] 40)) 40 #[.int .i64 b0, .int .i64 b1, .int .i64 b2, .int .i64 b3] (w.heap.size + 1) (by simp)
  have A1 := A0.alloc (.cells #[.int .i64 b0, .int .i64 b1, .int .i64 b2, .int .i64 b3] 40)
  have e1 : Ext w ((w.alloc (.cells #[.int .i64 a0, .int .i64 a1, .int .i64 a2, .int .i64 a3] 40)).alloc (.cells #[.int .i64 b0, .int .i64 b1, .int .i64 b2, .int .i64 b3] 40)) := by (repeat (with_reducible first | exact Ext.refl _ | assumption | refine Ext.drew ?_ | refine Ext.drewN ?_ _ | refine Ext.alloc ?_ _ | refine Ext.trans ?_ (by with_reducible assumption)))
  clear A0
  go_enter Tryd.func7, Tryd.ntmps7
  go_upto_region 1 with (fail)
  generalize ((w.alloc (.cells #[.int .i64 a0, .int .i64 a1, .int .i64 a2, .int .i64 a3] 40)).alloc (.cells #[.int .i64 b0, .int .i64 b1, .int .i64 b2, .int .i64 b3] 40)) = W0 at *
  obtain ⟨g0, hg0⟩ : ∃ g, w.heap.size = g := ⟨_, rfl⟩
  rw [hg0] at A1 B1
  try rw [hg0]
  have HE0 := Lib.hid e1
  have HA0 := Lib.hid A1
  have HB0 := Lib.hid B1
  clear e1 hg0 A1 B1
  have y0 := HA0.out.cell 0
  have y1 := HA0.out.cell 1
  have y2 := HA0.out.cell 2
  have y3 := HA0.out.cell 3
  go_wp2_with fail
  refine (HVA.out _).mono ?_
  rintro _ w1 ⟨rfl, hb1⟩
  clear y0 y1 y2 y3 HVA
  go_upto_if 32 with (fail)
  obtain ⟨kb, hkb⟩ : ∃ kb : Bool, (va == 0) = kb := ⟨_, rfl⟩
  rw [hkb]
  have HKB := Lib.hid hkb
  clear hkb
  have HE1 := Lib.hid (HE0.out.trans hb1)
  have HA1 := Lib.hid (HA0.out.ext hb1)
  have HB1' := Lib.hid (HB0.out.ext hb1)
  clear HE0 HA0 HB0 hb1
  go_cut [11] (fun v wc => v = .int .i64 bk ∧ Ext w1 wc)
  case first =>
    as_aux_lemma =>
    cases kb with
    | true =>
      obtain rfl := HB2.out (by simpa using HKB.out)
      have z0 := HB1'.out.cell 0
      have z1 := HB1'.out.cell 1
      have z2 := HB1'.out.cell 2
      have z3 := HB1'.out.cell 3
      clear HB1 HB2 HPB HK HF1 HF2 HF3 HF4 HF5
      go_wp2_with fail
      refine (HVB.out _).mono ?_
      rintro _ w2 ⟨rfl, hb2⟩
      go_wp2_with fail
      go_meet
      exact ⟨rfl, hb2⟩
    | false =>
      obtain rfl := HB1.out (by simpa using HKB.out)
      go_wp2_with fail
      go_meet
      exact ⟨rfl, Ext.refl _⟩
  case rest =>
  as_aux_lemma =>
  obtain ⟨rfl, hb2⟩ := hcut
  obtain ⟨w2, rfl⟩ : ∃ W, W = wc := ⟨_, rfl⟩
  have HE2 := Lib.hid (HE1.out.trans hb2)
  have HA2 := Lib.hid (HA1.out.ext hb2)
  have HB2' := Lib.hid (HB1'.out.ext hb2)
  clear HE1 HA1 HB1' hb2 HB1 HB2 HKB HVB
  have y0 := HA2.out.cell 0
  have y1 := HA2.out.cell 1
  have z0 := HB2'.out.cell 0
  have z1 := HB2'.out.cell 1
  go_upto_region 5 with (fail)
  go_cut [13] (fun v wc => v = .bool pb ∧ w2 = wc)
  case first =>
    as_aux_lemma =>
    by_cases h0 : bk = 0
    · subst h0
      by_cases h1 : a0 = b0
      · subst h1
        by_cases h2 : a1 = b1
        · subst h2
          obtain rfl : pb = false := by rw [HPB.out, HSB.out]; simp
          go_wp2_with fail
          go_meet
          exact ⟨rfl, rfl⟩
        · obtain rfl : pb = true := by rw [HPB.out, HSB.out]; simp [h2]; rfl
          have q1 : (a1 != b1) = true := by simp [h2]
          have q2 : (a1 == b1) = false := by simp [h2]
          clear h2
          go_wp2_with fail
          go_meet
          exact ⟨rfl, rfl⟩
      · obtain rfl : pb = false := by rw [HPB.out, HSB.out]; simp [h1]
        have q2 : (a0 == b0) = false := by simp [h1]
        clear h1
        go_wp2_with fail
        go_meet
        exact ⟨rfl, rfl⟩
    · obtain rfl : pb = false := by rw [HPB.out, isOk_no h0]; rfl
      have q2 : (bk == 0) = false := by simp [h0]
      clear h0
      go_wp2_with fail
      go_meet
      exact ⟨rfl, rfl⟩
  case rest =>
  as_aux_lemma =>
  obtain ⟨rfl, rfl⟩ := hcut
  clear HPB HSB y0 y1 z0 z1
  have y0 := HA2.out.cell 0
  have y1 := HA2.out.cell 1
  have y2 := HA2.out.cell 2
  have y3 := HA2.out.cell 3
  have z0 := HB2'.out.cell 0
  have z1 := HB2'.out.cell 1
  have z2 := HB2'.out.cell 2
  have z3 := HB2'.out.cell 3
  go_wp2_with fail
  refine (HPR.out _ HE2.out).mono ?_
  rintro _ w3 ⟨rfl, hb3⟩
  have e3 := HE2.out.trans hb3
  go_wp2_with fail
  refine (Error_is bk _ (HG.out.ext e3)).mono ?_
  rintro _ w4 ⟨rfl, hb4⟩
  have HE4 := Lib.hid (e3.trans hb4)
  have HA4 := Lib.hid ((HA2.out.ext hb3).ext hb4)
  have HB4 := Lib.hid ((HB2'.out.ext hb3).ext hb4)
  clear HPR y0 y1 y2 y3 z0 z1 z2 z3 e3 hb3 hb4 HE2 HA2 HB2'
  have y0 := HA4.out.cell 0
  have y1 := HA4.out.cell 1
  have z0 := HB4.out.cell 0
  have z1 := HB4.out.cell 1
  go_upto_region 9 with (fail)
  obtain ⟨tb, htb⟩ : ∃ t : Bool, decide (bk = 0 ∧ b0 < a0) = t := ⟨_, rfl⟩
  have HTB := Lib.hid htb
  clear htb
  go_cut [71] (fun v wc => v = .bool tb ∧ w4 = wc)
  case first =>
    as_aux_lemma =>
    by_cases h0 : bk = 0
    · subst h0
      by_cases h1 : b0 < a0
      · obtain rfl : tb = true := by rw [← HTB.out]; simp [h1]
        go_wp2_with fail
        go_meet
        exact ⟨rfl, rfl⟩
      · obtain rfl : tb = false := by rw [← HTB.out]; simp [h1]
        go_wp2_with fail
        go_meet
        exact ⟨rfl, rfl⟩
    · obtain rfl : tb = false := by rw [← HTB.out]; simp [h0]
      have q2 : (bk == 0) = false := by simp [h0]
      clear h0
      go_wp2_with fail
      go_meet
      exact ⟨rfl, rfl⟩
  case rest =>
  as_aux_lemma =>
  obtain ⟨rfl, rfl⟩ := hcut
  go_upto_if 71 with (fail)
  go_cut [11, 17] (fun e wl wc => e = .int .i64 ck ∧ wl = .bool cb ∧ Ext w4 wc)
  case first =>
    as_aux_lemma =>
    cases tb with
    | true =>
      obtain ⟨h0, h1⟩ := of_decide_eq_true HTB.out
      have hk := HK.out
      unfold chkX at hk
      rw [if_neg (not_not_intro h0), if_pos h1] at hk
      injection hk with hk1 hk2
      subst hk1 hk2
      clear h0 h1 HTB HK
      go_wp2_with fail
      go_meet
      exact ⟨rfl, rfl, Ext.refl _⟩
    | false =>
      have hn := of_decide_eq_false HTB.out
      by_cases h0 : bk = 0
      case neg =>
        have hk := HK.out
        unfold chkX at hk
        rw [if_pos h0] at hk
        injection hk with hk1 hk2
        subst hk1 hk2
        have q2 : (bk == 0) = false := by simp [h0]
        clear h0 hn HTB HK
        go_wp2_with fail
        go_meet
        exact ⟨rfl, rfl, Ext.refl _⟩
      subst h0
      have h1 : ¬ b0 < a0 := fun h => hn ⟨rfl, h⟩
      have hk := HK.out
      unfold chkX at hk
      rw [if_neg (not_not_intro rfl), if_neg h1] at hk
      clear hn HTB HK
      by_cases h2 : a0 = b0
      case pos =>
        subst h2
        rw [if_pos rfl] at hk
        have h5 : (a0 = 0) ∨ ¬ (a0 = 0) := Decidable.em _
        clear h1
        by_cases h3 : 0 < m
        case pos =>
          rw [if_pos h3] at hk
          injection hk with hk1 hk2
          subst hk1 hk2
          have h3i : (0 : Int) < (m : Int) := by omega
          rcases h5 with rfl | h5
          · go_wp2_with fail
            go_meet
            exact ⟨rfl, rfl, Ext.refl _⟩
          · have q2 : (a0 == 0) = false := by simp [h5]
            clear h5
            go_wp2_with fail
            go_meet
            exact ⟨rfl, rfl, Ext.refl _⟩
        rw [if_neg h3] at hk
        injection hk with hk1 hk2
        subst hk2
        obtain rfl : m = 0 := by omega
        clear h3
        have HK1 := Lib.hid hk1
        clear hk1
        rcases h5 with rfl | h5
        · go_wp2_with fail
          go_meet
          exact ⟨rfl, by rw [← HK1.out]; rfl, Ext.refl _⟩
        · have q2 : (a0 == 0) = false := by simp [h5]
          clear h5
          go_wp2_with fail
          go_meet
          exact ⟨rfl, by rw [← HK1.out]; rfl, Ext.refl _⟩
      rw [if_neg h2] at hk
      by_cases h3 : a0 = 0 ∧ 0 < b0
      case pos =>
        rw [if_pos h3] at hk
        injection hk with hk1 hk2
        subst hk1 hk2
        obtain ⟨rfl, h4⟩ := h3
        clear h1 h2
        go_wp2_with fail
        go_meet
        exact ⟨rfl, rfl, Ext.refl _⟩
      rw [if_neg h3] at hk
      have h5 : ¬ a0 = 0 := fun e => by subst e; omega
      have q2 : (a0 == 0) = false := by simp [h5]
      have q3 : (a0 == b0) = false := by simp [h2]
      have HKK := Lib.hid hk
      clear h2 h3 h5 hk
      go_wp2_with fail
      refine (HGC.out _ HE4.out).mono ?_
      rintro _ w5 ⟨rfl, hb5⟩
      by_cases h6 : gk' = 0
      · subst h6
        have hk := HKK.out
        rw [if_neg (by decide)] at hk
        injection hk with hk1 hk2
        subst hk1 hk2
        clear HKK
        go_wp2_with fail
        go_meet
        exact ⟨rfl, rfl, hb5⟩
      · by_cases h8 : gk' = 8
        · subst h8
          have hk := HKK.out
          rw [if_pos rfl] at hk
          injection hk with hk1 hk2
          subst hk1 hk2
          clear HKK
          go_wp2_with fail
          go_meet
          exact ⟨rfl, rfl, hb5⟩
        · have hk := HKK.out
          rw [if_neg h8, isOk_no h6] at hk
          injection hk with hk1 hk2
          subst hk1 hk2
          have q4 : (gk' == 0) = false := by simp [h6]
          have q5 : (gk' == 8) = false := by simp [h8]
          clear HKK h6 h8
          go_wp2_with fail
          go_meet
          exact ⟨rfl, rfl, hb5⟩
  case rest =>
  as_aux_lemma =>
  obtain ⟨rfl, rfl, hb5⟩ := hcut
  obtain ⟨w5, rfl⟩ : ∃ W, W = wc := ⟨_, rfl⟩
  have HE5 := Lib.hid (HE4.out.trans hb5)
  clear y0 y1 z0 z1
  have A5 := HA4.out.ext hb5
  have B5 := HB4.out.ext hb5
  have y0 := A5.cell 0
  have y1 := A5.cell 1
  have y2 := A5.cell 2
  have y3 := A5.cell 3
  have z0 := B5.cell 0
  have z1 := B5.cell 1
  have z2 := B5.cell 2
  have z3 := B5.cell 3
  clear HGC HK HTB HE4 HA4 HB4 hb5 A5 B5
  go_wp2_with fail
  refine (HCK.out _ HE5.out).mono ?_
  rintro _ w6 ⟨rfl, hb6⟩
  clear y0 y1 y2 y3 z0 z1 z2 z3 HCK
  have e6 := HE5.out.trans hb6
  go_wp2_with fail
  refine (Error_is ck _ (HG.out.ext e6)).mono ?_
  rintro _ w7 ⟨rfl, hb7⟩
  have HE7 := Lib.hid (e6.trans hb7)
  clear HE5 e6 hb6 hb7
  go_upto_if 130 with (fail)
  obtain ⟨nb, hnb⟩ : ∃ t : Bool, decide ((20 : Int) < (n : Int)) = t := ⟨_, rfl⟩
  rw [hnb]
  have HNB := Lib.hid hnb
  obtain ⟨f0, hf0⟩ : ∃ f : Int, (if 20 < n then 4 else 0) = f := ⟨_, rfl⟩
  have HF0 := Lib.hid hf0
  clear hnb hf0
  go_cut [12] (fun v wc => v = .int .i64 f0 ∧ w7 = wc)
  case first =>
    as_aux_lemma =>
    cases nb with
    | true =>
      obtain rfl : 4 = f0 := by rw [← HF0.out, if_pos (by have := of_decide_eq_true HNB.out; omega)]
      go_wp2_with fail
      go_meet
      exact ⟨rfl, rfl⟩
    | false =>
      obtain rfl : 0 = f0 := by rw [← HF0.out, if_neg (by have := of_decide_eq_false HNB.out; omega)]
      go_wp2_with fail
      go_meet
      exact ⟨rfl, rfl⟩
  case rest =>
  as_aux_lemma =>
  obtain ⟨rfl, rfl⟩ := hcut
  clear HNB
  go_upto_block 0 with (fail)
  go_cut [12, 20] (fun f _ wc => f = .int .i64 fin ∧ Ext w7 wc)
  case first =>
    as_aux_lemma =>
    have HS0 : Hid (FL key l fin 0 f0) := Lib.hid (by
      by_cases h : 20 < n
      · refine .inr ⟨?_, ?_⟩
        · rw [← HF0.out, if_pos h]; decide
        · rw [← HF0.out, if_pos h, HF3.out h]
      · refine .inl ⟨?_, HF4.out h, fun i y hi => absurd hi (by omega)⟩
        rw [← HF0.out, if_neg h])
    go_wp2_with fail
    go_loopw [12, 20] (fun f x wr => ∃ (j : Nat) (fi : Int), f = .int .i64 fi ∧ x = .int .i64 j ∧ j ≤ n ∧ Ext w7 wr ∧ Hid (FL key l fin j fi)) (fun _ x _ => n - (intOf x).toNat)
    case atStart => exact ⟨0, f0, rfl, rfl, Nat.zero_le _, Ext.refl _, HS0⟩
    case round =>
      obtain ⟨j, fi, rfl, rfl, hj, hbw, HFL⟩ := hrel
      by_cases hcn : j < n
      · by_cases hf : fi = 0
        · subst hf
          have hgj := List.getElem?_eq_getElem (l := l) (i := j) (by rw [HX.out]; exact hcn)
          obtain ⟨ad, rfl, hb, c0, c1, c2, c3⟩ := (HR'.out.ext (HE7.out.trans hbw)).getH hgj
          generalize l[j]'(by rw [HX.out]; exact hcn) = x at *
          have HGJ := Lib.hid hgj
          have HVx := Lib.hid fun W => HVX.out x W
          obtain ⟨vk, hvk⟩ : ∃ v, verK x key = v := ⟨_, rfl⟩
          have HVK := Lib.hid hvk
          rw [hvk] at HVx
          clear hgj hvk
          obtain ⟨x0, x1, x2, x3⟩ := x
          simp only at c0 c1 c2 c3 HVx
          have hbk : ad.block < wr.heap.size := hb
          go_wp2_with fail
          refine (HVx.out _).mono ?_
          rintro _ w8 ⟨rfl, hb8⟩
          have e8 : Ext w7 w8 := hbw.trans hb8
          go_wp2_with fail
          go_roundw
          case rel => exact ⟨j + 1, vk, rfl, by go_num, by omega, e8, Lib.hid (by
            rcases HFL.out with ⟨_, h1, h2⟩ | ⟨h, _⟩
            · by_cases hv : vk = 0
              · refine .inl ⟨hv, h1, fun i y hi hy => ?_⟩
                by_cases hij : i = j
                · subst hij
                  have h3 := HGJ.out
                  rw [hy] at h3
                  injection h3 with h3
                  rw [h3, HVK.out]
                  exact hv
                · exact h2 i y (by omega) hy
              · refine .inr ⟨hv, ?_⟩
                rw [h1, verL_at HGJ.out (by rw [HVK.out]; exact hv) fun i y hi hy => h2 i y hi hy, HVK.out]
            · exact absurd rfl h)⟩
          case measure => simp [intOf]; omega
        · obtain rfl : fi = fin := by
            rcases HFL.out with ⟨h, _⟩ | ⟨_, h⟩
            · exact absurd h hf
            · exact h
          have q1 : (fi == 0) = false := by simp [hf]
          clear hf HFL HF1 HF2 HF3 HF4 HF5
          go_wp2_with fail
          go_meet
          exact ⟨rfl, hbw⟩
      · obtain rfl : j = n := by omega
        obtain rfl : fi = fin := by
          rcases HFL.out with ⟨h, h1, h2⟩ | ⟨_, h⟩
          · rw [h, h1, verL_ok fun x hx => by
              obtain ⟨i, hi, hxi⟩ := List.getElem_of_mem hx
              exact h2 i x (by rw [HX.out] at hi; exact hi) (by rw [List.getElem?_eq_getElem hi, hxi])]
          · exact h
        clear HFL HF1 HF2 HF3 HF4 HF5
        go_wp2_with fail
        go_meet
        exact ⟨rfl, hbw⟩
  case rest =>
  as_aux_lemma =>
  obtain ⟨rfl, hb8⟩ := hcut
  obtain ⟨w8, rfl⟩ : ∃ W, W = wc := ⟨_, rfl⟩
  have HE8 := Lib.hid (HE7.out.trans hb8)
  clear HE7 hb8 HF0 HF3 HF4
  go_upto_if 148 with (fail)
  obtain ⟨fb, hfb⟩ : ∃ kb : Bool, (fin == 0) = kb := ⟨_, rfl⟩
  rw [hfb]
  have HFB := Lib.hid hfb
  obtain ⟨f5, hf5⟩ : ∃ f : Int, (if fin = 0 then 5 else fin) = f := ⟨_, rfl⟩
  have HF0 := Lib.hid hf5
  clear hfb hf5
  go_cut [12] (fun v wc => v = .int .i64 f5 ∧ w8 = wc)
  case first =>
    as_aux_lemma =>
    cases fb with
    | true =>
      obtain rfl : 5 = f5 := by rw [← HF0.out, if_pos (by simpa using HFB.out)]
      go_wp2_with fail
      go_meet
      exact ⟨rfl, rfl⟩
    | false =>
      obtain rfl : fin = f5 := by rw [← HF0.out, if_neg (by simpa using HFB.out)]
      go_wp2_with fail
      go_meet
      exact ⟨rfl, rfl⟩
  case rest =>
  as_aux_lemma =>
  obtain ⟨rfl, rfl⟩ := hcut
  go_upto_block 2 with (fail)
  go_cut [12, 21, 22, 23, 24] (fun f x y _ _ wc => f = .int .i64 fe ∧ x = .int .i64 fx ∧ y = .int .i64 fy ∧ Ext w8 wc)
  case first =>
    as_aux_lemma =>
    by_cases hfin : fin = 0
    · obtain rfl : 5 = f5 := by rw [← HF0.out, if_pos hfin]
      have HPV := Lib.hid (HF2.out hfin)
      clear hfin HF0 HF1 HF2 HF5 HFB
      go_wp2_with fail
      go_loopw [12, 21, 22, 23] (fun f x y k wr => ∃ (q : Nat) (ff xx yy : Int), f = .int .i64 ff ∧ x = .int .i64 xx ∧ y = .int .i64 yy ∧ k = .int .i64 q ∧ q ≤ n ∧ Ext w8 wr ∧ Hid (FK l n q ff xx yy)) (fun _ _ _ k _ => n - (intOf k).toNat)
      case atStart => exact ⟨0, 5, 0, 0, rfl, rfl, rfl, rfl, Nat.zero_le _, Ext.refl _, Lib.hid (.inl ⟨rfl, rfl, rfl, fun m hm => absurd hm (by omega)⟩)⟩
      case round =>
        obtain ⟨q, ff, xx, yy, rfl, rfl, rfl, rfl, hq, hbw, HFK⟩ := hrel
        by_cases hqn : q < n
        · by_cases h5 : ff = 5
          · subst h5
            have HI0 : Hid (FI l n q 0 5 xx yy) := Lib.hid (by
              rcases HFK.out with ⟨_, h1, h2, h3⟩ | ⟨h, _⟩
              · exact .inl ⟨rfl, h1, h2, h3, fun m hm => absurd hm (by omega)⟩
              · cases h)
            go_wp2_with fail
            go_loopw [12, 21, 22, 24] (fun f x y i wr => ∃ (p : Nat) (ff xx yy : Int), f = .int .i64 ff ∧ x = .int .i64 xx ∧ y = .int .i64 yy ∧ i = .int .i64 p ∧ p ≤ q ∧ Ext w8 wr ∧ Hid (FI l n q p ff xx yy)) (fun _ _ _ i _ => q - (intOf i).toNat)
            case atStart => exact ⟨0, 5, xx, yy, rfl, rfl, rfl, rfl, Nat.zero_le _, hbw, HI0⟩
            case round =>
              obtain ⟨p, ff, xx, yy, rfl, rfl, rfl, rfl, hpq, hbw2, HFI2⟩ := hrel
              by_cases hp : p < q
              · by_cases h5 : ff = 5
                · subst h5
                  have hgi := List.getElem?_eq_getElem (l := l) (i := p) (by rw [HX.out]; omega)
                  have hgk := List.getElem?_eq_getElem (l := l) (i := q) (by rw [HX.out]; omega)
                  obtain ⟨ad, rfl, hb, c0, c1, -, -⟩ := (HR'.out.ext (HE8.out.trans hbw2)).getH hgi
                  obtain ⟨ad', e', hb', d0, d1, -, -⟩ := (HR'.out.ext (HE8.out.trans hbw2)).getH hgk
                  obtain rfl : ad = ad' := by injection e'
                  generalize l[p]'(by rw [HX.out]; omega) = x at *
                  generalize l[q]'(by rw [HX.out]; omega) = y at *
                  have HSP := Lib.hid (spAt_eq hgi hgk)
                  obtain ⟨x0, x1, x2, x3⟩ := x
                  obtain ⟨s0, s1, s2, s3⟩ := y
                  simp only at c0 c1 d0 d1
                  have hpi : (0 : Int) ≤ (p : Int) := by omega
                  have hqi : (0 : Int) ≤ (q : Int) := by omega
                  have hpn : (p : Int) < (n : Int) := by omega
                  have hqn' : (q : Int) < (n : Int) := by omega
                  clear hgi hgk e' HFK HI0
                  by_cases h1 : x0 = s0
                  · subst h1
                    by_cases h2 : x1 = s1
                    · subst h2
                      have HNX := Lib.hid (FI_next HFI2.out (by rw [HSP.out]; simp [splB]))
                      clear HFI2 HSP
                      go_wp2_with fail
                      go_quiet (fail)
                      go_wp2_with fail
                      go_roundw
                      case rel => exact ⟨p + 1, 5, xx, yy, rfl, rfl, rfl, by go_num, by omega, by (repeat (with_reducible first | exact Ext.refl _ | assumption | refine Ext.drew ?_ | refine Ext.drewN ?_ _ | refine Ext.alloc ?_ _ | refine Ext.trans ?_ (by with_reducible assumption))), HNX⟩
                      case measure => simp [intOf]; omega
                    · have HHT := Lib.hid (FI_hit HFI2.out hp hqn (by rw [HSP.out]; simp [splB, h2]))
                      have q1 : (x1 != s1) = true := by simp [h2]
                      have q2 : (x1 == s1) = false := by simp [h2]
                      clear HFI2 HSP h2
                      go_wp2_with fail
                      go_quiet (fail)
                      go_wp2_with fail
                      go_roundw
                      case rel => exact ⟨p + 1, 0, (p : Int), (q : Int), rfl, rfl, rfl, by go_num, by omega, by (repeat (with_reducible first | exact Ext.refl _ | assumption | refine Ext.drew ?_ | refine Ext.drewN ?_ _ | refine Ext.alloc ?_ _ | refine Ext.trans ?_ (by with_reducible assumption))), Lib.hid (.inr ⟨rfl, HHT.out⟩)⟩
                      case measure => simp [intOf]; omega
                  · have HNX := Lib.hid (FI_next HFI2.out (by rw [HSP.out]; simp [splB, h1]))
                    have q2 : (x0 == s0) = false := by simp [h1]
                    clear HFI2 HSP h1
                    go_wp2_with fail
                    go_quiet (fail)
                    go_wp2_with fail
                    go_roundw
                    case rel => exact ⟨p + 1, 5, xx, yy, rfl, rfl, rfl, by go_num, by omega, by (repeat (with_reducible first | exact Ext.refl _ | assumption | refine Ext.drew ?_ | refine Ext.drewN ?_ _ | refine Ext.alloc ?_ _ | refine Ext.trans ?_ (by with_reducible assumption))), HNX⟩
                    case measure => simp [intOf]; omega
                · have HNX : Hid (FK l n (q + 1) ff xx yy) := Lib.hid (by
                    rcases HFI2.out with ⟨h, _⟩ | h
                    · exact absurd h h5
                    · exact .inr h)
                  have q1 : (ff == 5) = false := by simp [h5]
                  clear HFI2 h5
                  go_wp2_with fail
                  go_roundw
                  case rel => exact ⟨q + 1, ff, xx, yy, rfl, rfl, rfl, by go_num, by omega, hbw2, HNX⟩
                  case measure => simp [intOf]; omega
              · obtain rfl : p = q := by omega
                have HNX := Lib.hid (FK_next HFI2.out)
                clear HFI2
                go_wp2_with fail
                go_roundw
                case rel => exact ⟨p + 1, ff, xx, yy, rfl, rfl, rfl, by go_num, by omega, hbw2, HNX⟩
                case measure => simp [intOf]; omega
          · obtain ⟨rfl, hpv⟩ : ff = 0 ∧ pairV (fK l n 0) = (xx, yy, 0) := by
              rcases HFK.out with ⟨h, _⟩ | h
              · exact absurd h h5
              · exact h
            rw [HPV.out] at hpv
            injection hpv with h1 h2
            injection h2 with h2 h3
            subst h1 h2 h3
            clear HFK HPV h5
            go_wp2_with fail
            go_meet
            exact ⟨rfl, rfl, rfl, hbw⟩
        · obtain rfl : q = n := by omega
          have hpv := FK_end HFK.out
          rw [HPV.out] at hpv
          injection hpv with h1 h2
          injection h2 with h2 h3
          subst h1 h2 h3
          clear HFK HPV
          go_wp2_with fail
          go_meet
          exact ⟨rfl, rfl, rfl, hbw⟩
    · obtain rfl : fin = f5 := by rw [← HF0.out, if_neg hfin]
      obtain ⟨rfl, rfl, rfl⟩ := HF1.out hfin
      have q5 : (fe == 5) = false := by simpa using HF5.out
      clear hfin HF0 HF1 HF2 HF5 HFB
      go_wp2_with fail
      go_loopw [12, 21, 22, 23] (fun f x y k wr => f = .int .i64 fe ∧ x = .int .i64 0 ∧ y = .int .i64 0 ∧ k = .int .i64 0 ∧ w8 = wr) (fun _ _ _ k _ => n - (intOf k).toNat)
      case atStart => exact ⟨rfl, rfl, rfl, rfl, rfl⟩
      case round =>
        obtain ⟨rfl, rfl, rfl, rfl, rfl⟩ := hrel
        by_cases h0 : 0 < n
        · have h0i : (0 : Int) < (n : Int) := by omega
          go_wp2_with fail
          go_meet
          exact ⟨rfl, rfl, rfl, Ext.refl _⟩
        · obtain rfl : n = 0 := by omega
          go_wp2_with fail
          go_meet
          exact ⟨rfl, rfl, rfl, Ext.refl _⟩
  case rest =>
  as_aux_lemma =>
  obtain ⟨rfl, rfl, rfl, hb9⟩ := hcut
  obtain ⟨w9, rfl⟩ : ∃ W, W = wc := ⟨_, rfl⟩
  have HE9 := Lib.hid (HE8.out.trans hb9)
  clear HE8 hb9 HF0 HF1 HF2 HF5 HFB
  go_wp2_with fail
  refine (HFI.out _ HE9.out).mono ?_
  rintro _ w10 ⟨rfl, hb10⟩
  have e10 := HE9.out.trans hb10
  go_wp2_with fail
  refine (Error_is fe _ (HG.out.ext e10)).mono ?_
  rintro _ w11 ⟨rfl, hb11⟩
  have e11 := e10.trans hb11
  go_wp2_with fail
  go_ret
  exact ⟨ret_bool (by simp), e11⟩
end Go.Proofs.YtelcabjhbgkfmaaDoor.forkTells
