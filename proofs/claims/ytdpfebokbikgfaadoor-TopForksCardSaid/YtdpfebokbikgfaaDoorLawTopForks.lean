/- TopForks: the walk. -/
import Derived.Test.YtdpfebokbikgfaaDoorFollow
import Derived.Test.YtdpfebokbikgfaaDoorTopP
import Derived.Test.YtdpfebokbikgfaaDoorQuietT
namespace Go.Proofs.YtdpfebokbikgfaaDoor.topForks
open Go.RowKit Go.WideShapes
set_option linter.unusedVariables false
attribute [local go_sem ↓] Go.wp_at_zero Go.wp_at_succ

theorem info_str : (Tryd.prog.info? 9).map (fun i => (i.zero, i.size, i.bytes)) = some (some (.string ⟨#[]⟩), 1, 16) := by kernel_rfl
theorem oneS (s : ByteArray) : ∀ u ∈ [Value.string s], u.oneCell' = true := by intro u hu; simp at hu; subst hu; rfl
theorem take_bytes {es : List Ent} {j : Nat} {e : Ent} (h : es[j]? = some e) : ((es.take (j + 1)).map Ent.bytes).map Value.string = ((es.take j).map Ent.bytes).map Value.string ++ [.string e.bytes] := by
  obtain ⟨h1, h2⟩ := List.getElem?_eq_some_iff.1 h
  rw [List.take_succ_eq_append_getElem h1, List.map_append, List.map_append, h2]
  rfl

set_option maxRecDepth 100000 in
set_option maxHeartbeats 4000000 in
theorem walk_yes (A : Option Addr) (n c : Nat) (es : List Ent) (A' : Option Addr) (c' : Nat) (os : List Ent) (key : Int) (w : World)
    (hm : c ≤ maxLen) (hr : Rd w 2 A n c (es.flatMap Ent.cells)) (hm' : c' ≤ maxLen) (hr' : Rd w 2 A' n c' (os.flatMap Ent.cells))
    (hD : DebG w) (hP : PowG w) (hn1 : 1 ≤ n) (hn2 : n ≤ 200) (hne : es ≠ os) (hk : shK es key 0 = 0) (hk' : shK os key 0 = 0) :
    Calls Tryd.prog 3 #[.slice A n c, .slice A' n c', .int .i64 key] w fun e w' => e = .returned (.bool true) ∧ Ext w w' := by
  obtain ⟨hE, hN, hG0⟩ := errR_rules
  have hx := hr.lenE
  have hx' := hr'.lenE
  obtain ⟨ok1, sh1, v1, kk⟩ := sh_parts hk
  obtain ⟨ok2, sh2, v2, _⟩ := sh_parts hk'
  obtain ⟨ad, rfl, hbl, -⟩ := hr.2.2 (by omega)
  obtain ⟨ad', rfl, hbl', -⟩ := hr'.2.2 (by omega)
  have hnc := hr.2.1
  have hnc' := hr'.2.1
  have hcs : c ≤ 9223372036854775807 := by unfold maxLen at hm; omega
  have hcs' : c' ≤ 9223372036854775807 := by unfold maxLen at hm'; omega
  have HO := Lib.hid fun W => one_any W
  have HEN : Hid (∀ W, Ext w W → Calls Tryd.prog 9 #[.slice (some ad) n c, .slice (some ad') n c'] W fun e w' => e = .returned (.bool false) ∧ Ext W w') := Lib.hid fun W e => Entries_not _ _ n n c c' es os W (hr.ext e) (hr'.ext e) (by omega) (by omega) hne
  have HNW := Lib.hid fun W => MNew_any key W
  have HS1 : Hid (∀ W, Ext w W → Calls Tryd.prog 11 #[.slice (some ad) n c, .int .i64 key, .int .i64 0] W fun e w' => e = .returned (.tuple #[(shH es key 0).val, .nilIface]) ∧ Ext W w') := Lib.hid fun W e => by
    have := SHead_any (some ad) n c es key 0 W (hr.ext e) hm (hD.ext e) (hP.ext e)
    rw [hk] at this; exact this
  have HS2 : Hid (∀ W, Ext w W → Calls Tryd.prog 11 #[.slice (some ad') n c', .int .i64 key, .int .i64 0] W fun e w' => e = .returned (.tuple #[(shH os key 0).val, .nilIface]) ∧ Ext W w') := Lib.hid fun W e => by
    have := SHead_any (some ad') n c' os key 0 W (hr'.ext e) hm' (hD.ext e) (hP.ext e)
    rw [hk'] at this; exact this
  obtain ⟨ra, hra⟩ : ∃ x, ofL (es.map Ent.leaf) = x := ⟨_, rfl⟩
  obtain ⟨rb, hrb⟩ : ∃ x, ofL (os.map Ent.leaf) = x := ⟨_, rfl⟩
  obtain ⟨h, hh⟩ : ∃ x, shH es key 0 = x := ⟨_, rfl⟩
  obtain ⟨g, hg⟩ : ∃ x, shH os key 0 = x := ⟨_, rfl⟩
  rw [hh] at HS1 sh1 v1
  rw [hg] at HS2 sh2 v2
  have hhs : h.size = (n : Int) := by rw [sh1]; show ((es.length : Nat) : Int) = _; rw [hx]
  have hgs : g.size = (n : Int) := by rw [sh2]; show ((os.length : Nat) : Int) = _; rw [hx']
  have hhr : h.root = ra := by rw [sh1, ← hra]
  have hgr : g.root = rb := by rw [sh2, ← hrb]
  have hbo : bothK h g key = 0 := by unfold bothK; rw [if_neg (not_not_intro v1), v2]
  have hpv : prvB h g key = !decide (ra = rb) := by
    unfold prvB splB
    rw [hbo, hhs, hgs, hhr, hgr]
    simp [isOk]
  have HPV : Hid (∀ W, Ext w W → Calls Tryd.prog 13 #[h.val, g.val, .int .i64 key] W fun e w' => e = .returned (.tuple #[.bool (!decide (ra = rb)), .nilIface]) ∧ Ext W w') := Lib.hid fun W e => by
    have := Proves_any h g key W (hD.ext e) (hP.ext e)
    rw [hpv, hbo] at this; exact this
  have HFA : Hid (∀ (P : Nat → Prop) mb W, MM 83 W P mb (st key es 0 hd00) → Ext w W → (∀ g, P g → w.heap.size ≤ g) → (∀ g, W.heap.size ≤ g → P g) → Calls Tryd.prog 12 #[.pointer (some ⟨mb, 0, none⟩), .slice (some ad) n c, h.val] W fun e w' => e = .returned (.bool true) ∧ MM 83 w' P mb (st key es n h) ∧ Chg W w' P) := Lib.hid fun P mb W hM e hP0 hPn =>
    follow_any P mb key es h ad n c w W hM e hD hP hP0 hPn (hr.ext e) (fun hp => by have := hP0 _ hp; omega) hm hn1 ok1 v1 hhs (by rw [hhr, hra])
  have HFB : Hid (∀ (P : Nat → Prop) mb W, MM 83 W P mb (st key os 0 hd00) → Ext w W → (∀ g, P g → w.heap.size ≤ g) → (∀ g, W.heap.size ≤ g → P g) → Calls Tryd.prog 12 #[.pointer (some ⟨mb, 0, none⟩), .slice (some ad') n c', g.val] W fun e w' => e = .returned (.bool true) ∧ MM 83 w' P mb (st key os n g) ∧ Chg W w' P) := Lib.hid fun P mb W hM e hP0 hPn =>
    follow_any P mb key os g ad' n c' w W hM e hD hP hP0 hPn (hr'.ext e) (fun hp => by have := hP0 _ hp; omega) hm' hn1 ok2 v2 hgs (by rw [hgr, hrb])
  have HCL : Hid (ra = rb → (∀ s ∈ es.map Ent.bytes, s.size ≤ 200) → (∀ s ∈ os.map Ent.bytes, s.size ≤ 200) → ∃ x y : ByteArray, x ≠ y ∧ sumL x.data.toList = sumL y.data.toList ∧ x.size ≤ 1000 ∧ y.size ≤ 1000 ∧ ∀ B d B' d' W, Rd W 1 B n d ((es.map Ent.bytes).map Value.string) → Rd W 1 B' n d' ((os.map Ent.bytes).map Value.string) → d ≤ maxLen → d' ≤ maxLen →
      Calls Tryd.prog 16 #[.slice B n d, .slice B' n d'] W fun e w' => e = .returned (.tuple #[.agg #[.string x, .string y], .nilIface]) ∧ Ext W w') := Lib.hid fun he s1 s2 => by
    obtain ⟨q0, q1, q2, q3, q4⟩ := two_clash ok1 ok2 (hx.trans hx'.symm) (by omega) hne s1 s2 (by rw [hra, hrb]; exact he)
    refine ⟨_, _, q1, q2, q3, q4, fun B d B' d' W hB hB' hd hd' => ?_⟩
    have := Collide_any B B' n n d d' _ _ W hB hB' hd hd'
    rw [q0] at this
    exact this
  have HK1 := Lib.hid ok1.2
  have HK2 := Lib.hid ok2.2
  have HR1 := Lib.hid hr
  have HR2 := Lib.hid hr'
  have HX1 := Lib.hid hx
  have HX2 := Lib.hid hx'
  have HKK := Lib.hid kk
  clear hx hx' hk hk' ok1 ok2 sh1 sh2 v1 v2 kk hr hr' hra hrb hh hg hhs hgs hhr hgr hbo hpv hD hP hm hm' hne hbl hbl'
  obtain ⟨h0, h1, h2, h3⟩ := h
  obtain ⟨g0, g1, g2, g3⟩ := g
  simp only [Hd.val] at *
  go_enter Tryd.func3, Tryd.ntmps3
  go_wp2_with fail
  refine (HO.out _).mono ?_
  rintro _ w1 ⟨rfl, hb1⟩
  have E1 := Lib.hid hb1
  clear hb1
  go_wp2_with fail
  refine (HEN.out _ E1.out).mono ?_
  rintro _ w2 ⟨rfl, hb2⟩
  have E2 := Lib.hid (E1.out.trans hb2)
  clear hb2 E1 HEN HO
  have hnN : ¬ (200 : Int) < (n : Int) := by omega
  have hnz : ((n : Int) == 0) = false := beq_eq_false_iff_ne.2 (by omega)
  go_wp2_with fail
  refine (HNW.out _).mono ?_
  rintro _ w3 hnew
  rcases hnew with ⟨q1, _⟩ | ⟨_, rfl, hma, hb3⟩
  · rw [HKK.out] at q1; cases q1
  rw [errR_0]
  have HMA := Lib.hid hma
  have E3 := Lib.hid (E2.out.trans hb3)
  have hs2 : w.heap.size ≤ w2.heap.size := E2.out.size
  obtain ⟨ma, hma2⟩ : ∃ x, w2.heap.size = x := ⟨_, rfl⟩
  rw [hma2] at HMA hs2
  rw [hma2]
  clear hma hb3 hma2
  go_wp2_with fail
  refine (HNW.out _).mono ?_
  rintro _ w4 hnew
  rcases hnew with ⟨q1, _⟩ | ⟨_, rfl, hmb, hb4⟩
  · rw [HKK.out] at q1; cases q1
  rw [errR_0]
  have HMB := Lib.hid hmb
  have HMA4 := Lib.hid (HMA.out.ext hb4)
  have E4 := Lib.hid (E3.out.trans hb4)
  have hs3 : ma < w3.heap.size := HMA.out.bk.lt
  obtain ⟨mb, hmb2⟩ : ∃ x, w3.heap.size = x := ⟨_, rfl⟩
  rw [hmb2] at HMB hs3
  rw [hmb2]
  clear hmb hb4 hmb2 HMA E3 E2 HNW
  go_wp2_with fail
  refine (HS1.out _ E4.out).mono ?_
  rintro _ w5 ⟨rfl, hb5⟩
  have Bh := Bk.at_ w5 31 #[.int .i64 h0, .int .i64 h1, .int .i64 h2, .int .i64 h3] w5.heap.size rfl
  have e5 : Ext w4 (w5.alloc (.cells #[.int .i64 h0, .int .i64 h1, .int .i64 h2, .int .i64 h3] 31)) := hb5.alloc _
  have hh5 : w4.heap.size ≤ w5.heap.size := hb5.size
  go_upto_region 10 with (fail)
  generalize w5.alloc (.cells #[.int .i64 h0, .int .i64 h1, .int .i64 h2, .int .i64 h3] 31) = W5 at *
  generalize w5.heap.size = gh at *
  have HBH := Lib.hid Bh
  have HE5 := Lib.hid e5
  have E5 := Lib.hid (E4.out.trans e5)
  clear hb5 e5 Bh HS1
  go_wp2_with fail
  refine (HS2.out _ E5.out).mono ?_
  rintro _ w6 ⟨rfl, hb6⟩
  have Bg := Bk.at_ w6 31 #[.int .i64 g0, .int .i64 g1, .int .i64 g2, .int .i64 g3] w6.heap.size rfl
  have e6 : Ext W5 (w6.alloc (.cells #[.int .i64 g0, .int .i64 g1, .int .i64 g2, .int .i64 g3] 31)) := hb6.alloc _
  have hh6 : W5.heap.size ≤ w6.heap.size := hb6.size
  go_upto_region 11 with (fail)
  generalize w6.alloc (.cells #[.int .i64 g0, .int .i64 g1, .int .i64 g2, .int .i64 g3] 31) = W6 at *
  generalize w6.heap.size = gg at *
  have HBG := Lib.hid Bg
  have HBH6 := Lib.hid (HBH.out.ext e6)
  have E6 := Lib.hid (E5.out.trans e6)
  have e46 := HE5.out.trans e6
  have HA6 := Lib.hid (HMA4.out.ext e46)
  have HB6 := Lib.hid (HMB.out.ext e46)
  clear hb6 e6 Bg HS2 HBH HE5 E5 E4 HMA4 HMB
  -- where the first mirror lies
  obtain ⟨P, hPdef⟩ : ∃ P : Nat → Prop, P = fun x => x = ma ∨ W6.heap.size ≤ x := ⟨_, rfl⟩
  have hmaw : w.heap.size ≤ ma := hs2
  have hmbw : w.heap.size ≤ mb := by omega
  have hmm : ma ≠ mb := by omega
  have HM1 : Hid (MM 83 W6 P ma (st key es 0 hd00)) := Lib.hid ⟨_, _, HA6.out, fun x hx => by
    rcases hx with rfl | hx | hx
    · rw [hPdef]; exact .inl rfl
    · simp [Value.ownBlock] at hx
    · simp [Value.ownBlock] at hx⟩
  have HP0 : Hid (∀ x, P x → w.heap.size ≤ x) := Lib.hid fun x hx => by
    rw [hPdef] at hx
    rcases hx with rfl | hx
    · exact hmaw
    · have := E6.out.size; omega
  have HPN : Hid (∀ x, W6.heap.size ≤ x → P x) := Lib.hid fun x hx => by rw [hPdef]; exact .inr hx
  have y0 := HBH6.out.cell 0
  have y1 := HBH6.out.cell 1
  have y2 := HBH6.out.cell 2
  have y3 := HBH6.out.cell 3
  go_wp2_with fail
  refine (HFA.out P ma _ HM1.out E6.out HP0.out HPN.out).mono ?_
  rintro _ w7 ⟨rfl, hm7, hg7⟩
  have HM7 := Lib.hid hm7
  have HG7 := Lib.hid hg7
  have E7 := Lib.hid (hg7.extW E6.out fun x hx hp => by have := HP0.out x hp; omega)
  have hgt : gg < W6.heap.size := HBG.out.lt
  have hght : gh < W6.heap.size := HBH6.out.lt
  have hmbt : mb < W6.heap.size := HB6.out.bk.lt
  have HBG7 := Lib.hid (HBG.out.chg hg7 fun hp => by
    rw [hPdef] at hp
    rcases hp with hp | hp
    · exact bk_ne HA6.out.bk HBG.out (by decide) hp.symm
    · omega)
  have HB7 : Hid (MiAt 83 w7 mb (.slice none 0 0) (.slice none 0 0) (st key os 0 hd00)) := Lib.hid (HB6.out.chg hg7 fun x hx hp => by
    rcases hx with rfl | hx | hx
    · rw [hPdef] at hp
      rcases hp with hp | hp
      · exact hmm hp.symm
      · omega
    · simp [Value.ownBlock] at hx
    · simp [Value.ownBlock] at hx)
  clear hm7 hg7 y0 y1 y2 y3 HM1 HBG HBH6 HA6 HB6 HFA
  -- where the second one lies
  obtain ⟨Q, hQdef⟩ : ∃ Q : Nat → Prop, Q = fun x => x = mb ∨ w7.heap.size ≤ x := ⟨_, rfl⟩
  have HM2 : Hid (MM 83 w7 Q mb (st key os 0 hd00)) := Lib.hid ⟨_, _, HB7.out, fun x hx => by
    rcases hx with rfl | hx | hx
    · rw [hQdef]; exact .inl rfl
    · simp [Value.ownBlock] at hx
    · simp [Value.ownBlock] at hx⟩
  have HQ0 : Hid (∀ x, Q x → w.heap.size ≤ x) := Lib.hid fun x hx => by
    rw [hQdef] at hx
    rcases hx with rfl | hx
    · exact hmbw
    · have := E7.out.size; omega
  have HQN : Hid (∀ x, w7.heap.size ≤ x → Q x) := Lib.hid fun x hx => by rw [hQdef]; exact .inr hx
  have z0 := HBG7.out.cell 0
  have z1 := HBG7.out.cell 1
  have z2 := HBG7.out.cell 2
  have z3 := HBG7.out.cell 3
  go_wp2_with fail
  refine (HFB.out Q mb _ HM2.out E7.out HQ0.out HQN.out).mono ?_
  rintro _ w8 ⟨rfl, hm8, hg8⟩
  have HM8 := Lib.hid hm8
  have E8 := Lib.hid (hg8.extW E7.out fun x hx hp => by have := HQ0.out x hp; omega)
  have HA8 : Hid (MM 83 w8 P ma (st key es n ⟨h0, h1, h2, h3⟩)) := Lib.hid (HM7.out.chg hg8 fun x hx hlt hq => by
    rw [hPdef] at hx
    rw [hQdef] at hq
    rcases hq with rfl | hq
    · rcases hx with hx | hx
      · exact hmm hx.symm
      · omega
    · omega)
  clear hm8 hg8 z0 z1 z2 z3 HM2 HBG7 HB7 HFB HM7 HG7
  have hwa : Hid (∀ W, Ext w8 W → Calls Tryd.prog 14 #[.pointer (some ⟨ma, 0, none⟩)] W fun e w' => e = .returned (.agg #[.int .i64 h0, .int .i64 h1, .int .i64 h2, .int .i64 h3]) ∧ Ext W w') := Lib.hid fun W e => (HA8.out.ext e).headC
  have hwb : Hid (∀ W, Ext w8 W → Calls Tryd.prog 14 #[.pointer (some ⟨mb, 0, none⟩)] W fun e w' => e = .returned (.agg #[.int .i64 g0, .int .i64 g1, .int .i64 g2, .int .i64 g3]) ∧ Ext W w') := Lib.hid fun W e => (HM8.out.ext e).headC
  go_wp2_with fail
  refine (hwa.out _ (Ext.refl _)).mono ?_
  rintro _ w9 ⟨rfl, hb9⟩
  have E9 := Lib.hid hb9
  clear hb9
  go_wp2_with fail
  refine (hwb.out _ E9.out).mono ?_
  rintro _ w10 ⟨rfl, hb10⟩
  have E10 := Lib.hid (E8.out.trans (E9.out.trans hb10))
  clear hb10
  go_wp2_with fail
  refine (HPV.out _ E10.out).mono ?_
  rintro _ w11 ⟨rfl, hb11⟩
  have E11 := Lib.hid (E10.out.trans hb11)
  clear hb11 hwa hwb HPV E9 E10 HA8 HM8
  by_cases hq : ra = rb
  case neg =>
    have hd : (!decide (ra = rb)) = true := by simp [hq]
    rw [hd]
    clear hd hq
    go_wp2_with fail
    go_ret
    exact ⟨rfl, E11.out⟩
  have hd : (!decide (ra = rb)) = false := by simp [hq]
  rw [hd]
  have HCQ := Lib.hid (HCL.out hq)
  clear hd hq HCL HKK HP0 HPN HQ0 HQN hPdef hQdef hs2 hs3 hmaw hmbw hmm hgt hght hmbt e46 hh5 hh6
  obtain ⟨i0, hi0, hz0, hz1, hz2⟩ := info_parts info_str
  obtain ⟨b0, hb0⟩ : ∃ x, w11.heap.size = x := ⟨_, rfl⟩
  have HB0 := Lib.hid hb0
  clear hb0
  go_wp2_with fail
  go_loopw [19, 20, 21] (fun x y i wr => ∃ j : Nat, i = .int .i64 j ∧ j ≤ n ∧ Ext w11 wr ∧ Hid (wr.ownsRow b0 9 1 x j (((es.take j).map Ent.bytes).map Value.string)) ∧ Hid (wr.ownsRow b0 9 1 y j (((os.take j).map Ent.bytes).map Value.string)) ∧ Hid (∀ g, x.ownBlock = some g → y.ownBlock ≠ some g) ∧ Hid (∀ s ∈ (es.take j).map Ent.bytes, s.size ≤ 200) ∧ Hid (∀ s ∈ (os.take j).map Ent.bytes, s.size ≤ 200)) (fun _ _ i _ => n - (intOf i).toNat)
  case atStart => exact ⟨0, rfl, Nat.zero_le _, Ext.refl _, own_nil _ _ _ _, own_nil _ _ _ _, Lib.hid (fun g hg => by simp [Value.ownBlock] at hg), Lib.hid (fun s hs => by simp at hs), Lib.hid (fun s hs => by simp at hs)⟩
  case round =>
    obtain ⟨j, rfl, hj, hbw, HX, HY, HAP, HZ1, HZ2⟩ := hrel
    have hwr : b0 ≤ wr.heap.size := by rw [← HB0.out]; exact hbw.size
    by_cases hc : j < n
    · have hg1 := List.getElem?_eq_getElem (l := es) (i := j) (by rw [HX1.out]; exact hc)
      have hg2 := List.getElem?_eq_getElem (l := os) (i := j) (by rw [HX2.out]; exact hc)
      obtain ⟨ad1, e1, hbl1, c0, c1⟩ := (HR1.out.ext (E11.out.trans hbw)).getE hg1
      obtain ⟨ad2, e2, hbl2, d0, d1⟩ := (HR2.out.ext (E11.out.trans hbw)).getE hg2
      injection e1 with e1
      injection e2 with e2
      subst e1 e2
      generalize es[j]'(by rw [HX1.out]; exact hc) = a at *
      generalize os[j]'(by rw [HX2.out]; exact hc) = b at *
      have HT1 := Lib.hid (take_bytes hg1)
      have HT2 := Lib.hid (take_bytes hg2)
      have hm1 : (es.take (j + 1)).map Ent.bytes = (es.take j).map Ent.bytes ++ [a.bytes] := by
        obtain ⟨q1, q2⟩ := List.getElem?_eq_some_iff.1 hg1
        rw [List.take_succ_eq_append_getElem q1, List.map_append, q2]; rfl
      have hm2 : (os.take (j + 1)).map Ent.bytes = (os.take j).map Ent.bytes ++ [b.bytes] := by
        obtain ⟨q1, q2⟩ := List.getElem?_eq_some_iff.1 hg2
        rw [List.take_succ_eq_append_getElem q1, List.map_append, q2]; rfl
      have hZ1 : a.bytes.size ≤ 200 → ∀ s ∈ (es.take (j + 1)).map Ent.bytes, s.size ≤ 200 := fun h s hs => by
        rw [hm1, List.mem_append] at hs
        rcases hs with hs | hs
        · exact HZ1.out s hs
        · simp at hs; rw [hs]; exact h
      have hZ2 : b.bytes.size ≤ 200 → ∀ s ∈ (os.take (j + 1)).map Ent.bytes, s.size ≤ 200 := fun h s hs => by
        rw [hm2, List.mem_append] at hs
        rcases hs with hs | hs
        · exact HZ2.out s hs
        · simp at hs; rw [hs]; exact h
      have HEA := Lib.hid fun W => Encode_ok a.time a.data W (HK1.out a (List.mem_of_getElem? hg1))
      have HEB := Lib.hid fun W => Encode_ok b.time b.data W (HK2.out b (List.mem_of_getElem? hg2))
      have hsa := a.bytes_size
      have hsb := b.bytes_size
      obtain ⟨sa, hsa2⟩ : ∃ x, a.bytes = x := ⟨_, rfl⟩
      obtain ⟨sb, hsb2⟩ : ∃ x, b.bytes = x := ⟨_, rfl⟩
      have HEA' : Hid (∀ W, Calls Tryd.prog 15 #[.agg #[.int .i64 a.time, .string a.data]] W fun e w' => e = .returned (.tuple #[.string sa, .nilIface]) ∧ Ext W w') := Lib.hid fun W => by
        rw [← hsa2]; exact HEA.out W
      have HEB' : Hid (∀ W, Calls Tryd.prog 15 #[.agg #[.int .i64 b.time, .string b.data]] W fun e w' => e = .returned (.tuple #[.string sb, .nilIface]) ∧ Ext W w') := Lib.hid fun W => by
        rw [← hsb2]; exact HEB.out W
      rw [hsa2] at HT1 hZ1
      rw [hsb2] at HT2 hZ2
      have HZA := Lib.hid hZ1
      have HZB := Lib.hid hZ2
      obtain ⟨at_, ad_⟩ := a
      obtain ⟨bt_, bd_⟩ := b
      simp only at c0 c1 d0 d1 HEA' HEB'
      have HD0 := Lib.hid d0
      have HD1 := Lib.hid d1
      have hcN : (j : Int) < (n : Int) := by omega
      clear hg1 hg2 hm1 hm2 hZ1 hZ2 HEA HEB hsa hsb hsa2 hsb2 d0 d1
      go_wp2_with fail
      refine (HEA'.out _).mono ?_
      rintro _ x1 ⟨rfl, hx1⟩
      have d0 := (hx1.cell (p := ad'.add (j * 2)) (by rw [blk_add]; exact hbl2)).trans HD0.out
      have d1 := (hx1.cell (p := ⟨(ad'.add (j * 2)).block, (ad'.add (j * 2)).off + 1, none⟩) (by show (ad'.add (j * 2)).block < _; rw [blk_add]; exact hbl2)).trans HD1.out
      clear c0 c1
      go_wp2_with fail
      refine (HEB'.out _).mono ?_
      rintro _ x2 ⟨rfl, hx2⟩
      have e2 := hx1.trans hx2
      have HX' := Lib.hid (own_ext HX.out e2)
      have HY' := Lib.hid (own_ext HY.out e2)
      have HBW := Lib.hid (hbw.trans e2)
      have hw2 : b0 ≤ x2.heap.size := Nat.le_trans hwr e2.size
      clear d0 d1 hx1 hx2 e2 hbw
      by_cases q1 : 200 < sa.size
      · have q1' : (200 : Int) < (sa.size : Int) := by omega
        go_wp2_with fail
        go_ret
        exact ⟨rfl, E11.out.trans HBW.out⟩
      by_cases q2 : 200 < sb.size
      · have q1' : ¬ (200 : Int) < (sa.size : Int) := by omega
        have q2' : (200 : Int) < (sb.size : Int) := by omega
        go_wp2_with fail
        go_ret
        exact ⟨rfl, E11.out.trans HBW.out⟩
      have q1' : ¬ (200 : Int) < (sa.size : Int) := by omega
      have q2' : ¬ (200 : Int) < (sb.size : Int) := by omega
      have HZ1' := Lib.hid (HZA.out (by omega))
      have HZ2' := Lib.hid (HZB.out (by omega))
      have HXX := Lib.hid (HX'.out.alloc (.cells #[.string sa] 9))
      have HYX := Lib.hid (HY'.out.alloc (.cells #[.string sa] 9))
      clear q1 q2 HZA HZB
      go_upto_region 31 with (at_builtin; refine wpl_apps (by rfl) _ _ _ (by rfl) b0 9 i0 _ 1 16 Tryd.underlying38 hi0 hz0 hz1 hz2 rfl (by omega) u19 _ _ (by rfl) HXX.out ⟨x2.heap.size, 0, none⟩ 1 1 [.string sa] (by rfl) rfl (news_new x2 _ _ _ rfl) (oneS _) (by omega) (by omega) (by omega) (by simp; omega) ?_; intro ga ca x3 own3 hg3 hH3 hl3)
      have HY3 : Hid (x3.ownsRow b0 9 1 u20 j (((os.take j).map Ent.bytes).map Value.string)) := Lib.hid (HYX.out.kept hg3 (by
        cases hb : u20.ownBlock with
        | none => exact .inl rfl
        | some g' => exact .inr fun e => HAP.out g' e.symm hb))
      have HX3 : Hid (x3.ownsRow b0 9 1 (.slice (some ⟨ga, 0, none⟩) (j + 1) ca) (j + 1) (((es.take (j + 1)).map Ent.bytes).map Value.string)) := Lib.hid (by rw [HT1.out]; exact own3)
      have HAP3 : Hid (u20.ownBlock ≠ some ga) := Lib.hid fun e => by
        rcases hH3 with h | h
        · exact HAP.out ga h e
        · have := (HYX.out.lt ga e).2; omega
      have HW3 : Hid (Ext w11 x3) := Lib.hid (own_grown HXX.out hg3 w11 (by rw [HB0.out]; exact Nat.le_refl _) (HBW.out.alloc _))
      have HX4 := Lib.hid (HX3.out.alloc (.cells #[.string sb] 9))
      have HY4 := Lib.hid (HY3.out.alloc (.cells #[.string sb] 9))
      have hw3 : b0 ≤ x3.heap.size := by rw [← HB0.out]; exact HW3.out.size
      clear own3 hg3 hH3 HXX HYX HX' HY' HX HY HBW HAP hw2 hwr
      go_wp2_with (at_builtin; refine wpl_apps (by rfl) _ _ _ (by rfl) b0 9 i0 _ 1 16 Tryd.underlying38 hi0 hz0 hz1 hz2 rfl (by omega) u20 _ _ (by rfl) HY4.out ⟨x3.heap.size, 0, none⟩ 1 1 [.string sb] (by rfl) rfl (news_new x3 _ _ _ rfl) (oneS _) (by omega) (by omega) (by omega) (by simp; omega) ?_; intro gb cb x4 own4 hg4 hH4 hl4)
      have HX5 : Hid (x4.ownsRow b0 9 1 (.slice (some ⟨ga, 0, none⟩) (j + 1) ca) (j + 1) (((es.take (j + 1)).map Ent.bytes).map Value.string)) := Lib.hid (HX4.out.kept hg4 (.inr fun e => HAP3.out e.symm))
      have HY5 : Hid (x4.ownsRow b0 9 1 (.slice (some ⟨gb, 0, none⟩) (j + 1) cb) (j + 1) (((os.take (j + 1)).map Ent.bytes).map Value.string)) := Lib.hid (by rw [HT2.out]; exact own4)
      have HAP5 : Hid (∀ g, (Value.slice (some ⟨ga, 0, none⟩) (j + 1) ca).ownBlock = some g → (Value.slice (some ⟨gb, 0, none⟩) (j + 1) cb).ownBlock ≠ some g) := Lib.hid fun g hg hg' => by
        have e1 : ga = g := by simpa [Value.ownBlock] using hg
        have e2 : gb = g := by simpa [Value.ownBlock] using hg'
        have hlt := (HX4.out.lt ga rfl).2
        rcases hH4 with h | h
        · exact HAP3.out (by rw [e1, ← e2]; exact h)
        · omega
      have HW4 : Hid (Ext w11 x4) := Lib.hid (own_grown HY4.out hg4 w11 (by rw [HB0.out]; exact Nat.le_refl _) (HW3.out.alloc _))
      clear own4 hg4 hH4
      go_roundw
      case rel => exact ⟨j + 1, by go_num, by omega, HW4.out, HX5, HY5, HAP5, HZ1', HZ2'⟩
      case measure => simp [intOf]; omega
    · obtain rfl : j = n := by omega
      have ht1 : es.take j = es := List.take_of_length_le (by rw [HX1.out]; exact Nat.le_refl _)
      have ht2 : os.take j = os := List.take_of_length_le (by rw [HX2.out]; exact Nat.le_refl _)
      have hx := HX.out
      have hy := HY.out
      have hz1' := HZ1.out
      have hz2' := HZ2.out
      rw [ht1] at hx hz1'
      rw [ht2] at hy hz2'
      obtain ⟨B1, d1, hv1, hd1, R1, -⟩ := own_rd hx
      obtain ⟨B2, d2, hv2, hd2, R2, -⟩ := own_rd hy
      obtain ⟨x, y, q1, q2, q3, q4, hcol⟩ := HCQ.out hz1' hz2'
      have HCO := Lib.hid (hcol B1 d1 B2 d2 wr R1 R2 hd1 hd2)
      have HQ := Lib.hid q2
      have hse := (Lib.bytes_beq_false_iff x y).2 q1
      have EW := Lib.hid (E11.out.trans hbw)
      subst hv1 hv2
      clear hx hy hz1' hz2' R1 R2 ht1 ht2 q1 q2 hcol HX HY HAP HZ1 HZ2 HCQ hbw hwr
      go_wp2_with fail
      refine HCO.out.mono ?_
      rintro _ x4 ⟨rfl, hb4⟩
      have X4 := EW.out.trans hb4
      have BN : Bk (x4.alloc (.cells #[.string x, .string y] 44)) x4.heap.size 44 #[.string x, .string y] := Bk.at_ _ _ _ _ rfl
      have X5 : Ext w (x4.alloc (.cells #[.string x, .string y] 44)) := X4.alloc _
      go_wp2_with fail
      generalize x4.alloc (.cells #[.string x, .string y] 44) = x5 at *
      have f0 : ∀ z : WE x5, z.W.cell? ⟨x4.heap.size, 0, none⟩ = some (.string x) := fun z => (BN.ext z.h).cell 0
      have f1 : ∀ z : WE x5, z.W.cell? ⟨x4.heap.size, 1, none⟩ = some (.string y) := fun z => (BN.ext z.h).cell 1
      (refine wp_region_ext (w0 := x5) (by kernel_rfl) (by kernel_rfl) (by (repeat (with_reducible first | exact Ext.refl _ | assumption | refine Ext.drew ?_ | refine Ext.drewN ?_ _ | refine Ext.alloc ?_ _ | refine Ext.trans ?_ (by with_reducible assumption)))) ?_; (repeat (go_big_quiet_step (((go_at_call 17; exact quietE (Sum_any _ _ (by simp only [maxLen]; omega))))))); refine wpQuiet_nil ?_)
      intro x6 hb6
      go_wp2_with fail
      go_ret
      exact ⟨ret_bool (by simp [HQ.out]), X5.trans hb6⟩

set_option maxRecDepth 100000 in
set_option maxHeartbeats 2000000 in
theorem walk (A : Option Addr) (n c : Nat) (es : List Ent) (A' : Option Addr) (n' c' : Nat) (os : List Ent) (key : Int) (w : World)
    (hl : es.length = n) (hm : c ≤ maxLen) (hr : Rd w 2 A n c (es.flatMap Ent.cells)) (ge : ∀ y ∈ es, y.good) (hl' : os.length = n') (hm' : c' ≤ maxLen) (hr' : Rd w 2 A' n' c' (os.flatMap Ent.cells)) (ge' : ∀ y ∈ os, y.good) (gk : igood key)
    (hD : DebG w) (hP : PowG w) :
    Calls Tryd.prog 3 #[.slice A n c, .slice A' n' c', .int .i64 key] w fun e w' => e = .returned (.bool true) ∧ Ext w w' := by
  have hnc := hr.2.1
  have hnc' := hr'.2.1
  have hcs : c ≤ 9223372036854775807 := by unfold maxLen at hm; omega
  have hcs' : c' ≤ 9223372036854775807 := by unfold maxLen at hm'; omega
  by_cases hsh : n ≠ n' ∨ n = 0 ∨ 200 < n ∨ es = os
  · have HO := Lib.hid fun W => one_any W
    have HEN : Hid (∀ W, Ext w W → Calls Tryd.prog 9 #[.slice A n c, .slice A' n' c'] W fun e w' => e = .returned (.bool (entsB es os)) ∧ Ext W w') := Lib.hid fun W e => Entries_any A A' n n' c c' es os W (hr.ext e) (hr'.ext e) hm hm'
    obtain ⟨sb, hsb⟩ : ∃ x, entsB es os = x := ⟨_, rfl⟩
    have h4 : (¬ n = n') ∨ (n = n' ∧ n = 0) ∨ (n = n' ∧ n ≠ 0 ∧ 200 < n) ∨ (n = n' ∧ n ≠ 0 ∧ ¬ 200 < n ∧ sb = true) := by
      by_cases h1 : n = n'
      · by_cases h2 : n = 0
        · exact .inr (.inl ⟨h1, h2⟩)
        · by_cases h3 : 200 < n
          · exact .inr (.inr (.inl ⟨h1, h2, h3⟩))
          · refine .inr (.inr (.inr ⟨h1, h2, h3, ?_⟩))
            have he : es = os := by
              rcases hsh with h | h | h | h
              · exact absurd h1 h
              · exact absurd h h2
              · exact absurd h h3
              · exact h
            rw [← hsb, he]
            exact @decide_eq_true _ (Classical.propDecidable _) rfl
      · exact .inl h1
    rw [hsb] at HEN
    clear hsb hsh hl hm hr ge hl' hm' hr' ge' gk hD hP
    have hq : ((¬ n = n') ∧ ((n : Int) == (n' : Int)) = false) ∨ (n = n' ∧ n = 0) ∨ (n = n' ∧ n ≠ 0 ∧ 200 < n ∧ ((n : Int) == 0) = false) ∨ (n = n' ∧ n ≠ 0 ∧ ¬ 200 < n ∧ sb = true ∧ ((n : Int) == 0) = false) := by
      rcases h4 with h | h | ⟨h, h2, h3⟩ | ⟨h, h2, h3, h4⟩
      · exact .inl ⟨h, beq_eq_false_iff_ne.2 (by omega)⟩
      · exact .inr (.inl h)
      · exact .inr (.inr (.inl ⟨h, h2, h3, beq_eq_false_iff_ne.2 (by omega)⟩))
      · exact .inr (.inr (.inr ⟨h, h2, h3, h4, beq_eq_false_iff_ne.2 (by omega)⟩))
    clear h4
    go_enter Tryd.func3, Tryd.ntmps3
    go_wp2_with fail
    refine (HO.out _).mono ?_
    rintro _ w1 ⟨rfl, hb1⟩
    have E1 := Lib.hid hb1
    clear hb1
    go_wp2_with fail
    refine (HEN.out _ E1.out).mono ?_
    rintro _ w2 ⟨rfl, hb2⟩
    have E2 := Lib.hid (E1.out.trans hb2)
    clear hb2 E1 HEN HO
    rcases hq with ⟨h, hb⟩ | ⟨rfl, rfl⟩ | ⟨rfl, h2, h3, hb⟩ | ⟨rfl, h2, h3, rfl, hb⟩
    · go_wp2_with fail
      go_ret
      exact ⟨rfl, E2.out⟩
    · go_wp2_with fail
      go_ret
      exact ⟨rfl, E2.out⟩
    · have h3' : (200 : Int) < (n : Int) := by omega
      go_wp2_with fail
      go_ret
      exact ⟨rfl, E2.out⟩
    · have h3' : ¬ (200 : Int) < (n : Int) := by omega
      go_wp2_with fail
      go_ret
      exact ⟨rfl, E2.out⟩
  · have hnn : n = n' := Classical.byContradiction fun h => hsh (.inl h)
    subst hnn
    have hn1 : 1 ≤ n := by
      rcases Nat.eq_zero_or_pos n with h | h
      · exact absurd (.inr (.inl h)) hsh
      · exact h
    have hn2 : n ≤ 200 := Nat.le_of_not_lt fun h => hsh (.inr (.inr (.inl h)))
    have hne : es ≠ os := fun h => hsh (.inr (.inr (.inr h)))
    by_cases hk : shK es key 0 = 0 ∧ shK os key 0 = 0
    · exact walk_yes A n c es A' c' os key w hm hr hm' hr' hD hP hn1 hn2 hne hk.1 hk.2
    · obtain ⟨hE, hN, hG0⟩ := errR_rules
      have HO := Lib.hid fun W => one_any W
      have HEN : Hid (∀ W, Ext w W → Calls Tryd.prog 9 #[.slice A n c, .slice A' n c'] W fun e w' => e = .returned (.bool false) ∧ Ext W w') := Lib.hid fun W e => Entries_not _ _ n n c c' es os W (hr.ext e) (hr'.ext e) (by omega) (by omega) hne
      have HNW := Lib.hid fun W => MNew_any key W
      have HS1 : Hid (∀ W, Ext w W → Calls Tryd.prog 11 #[.slice A n c, .int .i64 key, .int .i64 0] W fun e w' => e = .returned (.tuple #[(shH es key 0).val, errR (shK es key 0)]) ∧ Ext W w') := Lib.hid fun W e => SHead_any A n c es key 0 W (hr.ext e) hm (hD.ext e) (hP.ext e)
      have HS2 : Hid (∀ W, Ext w W → Calls Tryd.prog 11 #[.slice A' n c', .int .i64 key, .int .i64 0] W fun e w' => e = .returned (.tuple #[(shH os key 0).val, errR (shK os key 0)]) ∧ Ext W w') := Lib.hid fun W e => SHead_any A' n c' os key 0 W (hr'.ext e) hm' (hD.ext e) (hP.ext e)
      obtain ⟨h, hh⟩ : ∃ x, shH es key 0 = x := ⟨_, rfl⟩
      obtain ⟨g, hg⟩ : ∃ x, shH os key 0 = x := ⟨_, rfl⟩
      obtain ⟨ka, hka⟩ : ∃ x, shK es key 0 = x := ⟨_, rfl⟩
      obtain ⟨kb, hkb⟩ : ∃ x, shK os key 0 = x := ⟨_, rfl⟩
      rw [hh, hka] at HS1
      rw [hg, hkb] at HS2
      rw [hka, hkb] at hk
      clear hh hg hka hkb hl hm hr ge hl' hm' hr' ge' gk hD hP hne hsh
      obtain ⟨h0, h1, h2, h3⟩ := h
      obtain ⟨g0, g1, g2, g3⟩ := g
      simp only [Hd.val] at *
      have hnN : ¬ (200 : Int) < (n : Int) := by omega
      have hnz : ((n : Int) == 0) = false := beq_eq_false_iff_ne.2 (by omega)
      have hk2 : ka ≠ 0 ∨ (ka = 0 ∧ kb ≠ 0) := by
        by_cases h : ka = 0
        · exact .inr ⟨h, fun h' => hk ⟨h, h'⟩⟩
        · exact .inl h
      obtain ⟨kk, hkk⟩ : ∃ x, keyI key = x := ⟨_, rfl⟩
      rw [hkk] at HNW
      clear hk hkk
      go_enter Tryd.func3, Tryd.ntmps3
      go_wp2_with fail
      refine (HO.out _).mono ?_
      rintro _ w1 ⟨rfl, hb1⟩
      have E1 := Lib.hid hb1
      clear hb1
      go_wp2_with fail
      refine (HEN.out _ E1.out).mono ?_
      rintro _ w2 ⟨rfl, hb2⟩
      have E2 := Lib.hid (E1.out.trans hb2)
      clear hb2 E1 HEN HO
      go_wp2_with fail
      refine (HNW.out _).mono ?_
      rintro _ w3 hnew
      rcases hnew with ⟨rfl, rfl, hb3⟩ | ⟨rfl, rfl, hma, hb3⟩
      · have E3 := Lib.hid (E2.out.trans hb3)
        rw [errR_ne (show (1 : Int) ≠ 0 by decide)]
        simp only [errV]
        clear hb3 E2
        go_wp2_with fail
        refine (HNW.out _).mono ?_
        rintro _ w4 hnew
        rcases hnew with ⟨_, rfl, hb4⟩ | ⟨h, _⟩
        case inr => cases h
        have E4 := Lib.hid (E3.out.trans hb4)
        rw [errR_ne (show (1 : Int) ≠ 0 by decide)]
        simp only [errV]
        clear hb4 E3 HNW
        go_wp2_with fail
        refine (HS1.out _ E4.out).mono ?_
        rintro _ w5 ⟨rfl, hb5⟩
        have e5 : Ext w (w5.alloc (.cells #[.int .i64 h0, .int .i64 h1, .int .i64 h2, .int .i64 h3] 31)) := (E4.out.trans hb5).alloc _
        have E5 := Lib.hid e5
        go_upto_region 10 with (fail)
        generalize w5.alloc (.cells #[.int .i64 h0, .int .i64 h1, .int .i64 h2, .int .i64 h3] 31) = W5 at *
        clear hb5 e5 E4
        go_wp2_with fail
        refine (HS2.out _ E5.out).mono ?_
        rintro _ w6 ⟨rfl, hb6⟩
        have E6 := Lib.hid ((E5.out.trans hb6).alloc (.cells #[.int .i64 g0, .int .i64 g1, .int .i64 g2, .int .i64 g3] 31))
        go_upto_region 11 with (fail)
        generalize w6.alloc (.cells #[.int .i64 g0, .int .i64 g1, .int .i64 g2, .int .i64 g3] 31) = W6 at *
        clear hb6
        go_wp2_with fail
        go_ret
        exact ⟨rfl, E6.out⟩
      · have E3 := Lib.hid (E2.out.trans hb3)
        rw [errR_0]
        clear hb3 E2 hma
        go_wp2_with fail
        refine (HNW.out _).mono ?_
        rintro _ w4 hnew
        rcases hnew with ⟨h, _⟩ | ⟨_, rfl, hmb, hb4⟩
        · cases h
        have E4 := Lib.hid (E3.out.trans hb4)
        rw [errR_0]
        clear hb4 E3 HNW hmb
        go_wp2_with fail
        refine (HS1.out _ E4.out).mono ?_
        rintro _ w5 ⟨rfl, hb5⟩
        have e5 : Ext w (w5.alloc (.cells #[.int .i64 h0, .int .i64 h1, .int .i64 h2, .int .i64 h3] 31)) := (E4.out.trans hb5).alloc _
        have E5 := Lib.hid e5
        go_upto_region 10 with (fail)
        generalize w5.alloc (.cells #[.int .i64 h0, .int .i64 h1, .int .i64 h2, .int .i64 h3] 31) = W5 at *
        clear hb5 e5 E4
        go_wp2_with fail
        refine (HS2.out _ E5.out).mono ?_
        rintro _ w6 ⟨rfl, hb6⟩
        have E6 := Lib.hid ((E5.out.trans hb6).alloc (.cells #[.int .i64 g0, .int .i64 g1, .int .i64 g2, .int .i64 g3] 31))
        go_upto_region 11 with (fail)
        generalize w6.alloc (.cells #[.int .i64 g0, .int .i64 g1, .int .i64 g2, .int .i64 g3] 31) = W6 at *
        clear hb6
        rcases hk2 with h | ⟨rfl, h⟩
        · have hok := isOk_no h
          clear h
          go_wp2_with fail
          go_ret
          exact ⟨rfl, E6.out⟩
        · have hok := isOk_no h
          rw [errR_0]
          clear h
          go_wp2_with fail
          go_ret
          exact ⟨rfl, E6.out⟩
end Go.Proofs.YtdpfebokbikgfaaDoor.topForks
