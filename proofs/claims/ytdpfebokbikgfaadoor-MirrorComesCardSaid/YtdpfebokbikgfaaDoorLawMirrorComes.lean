/- MirrorComes: the walk. -/
import Derived.Test.YtdpfebokbikgfaaDoorFollow
import Derived.Test.YtdpfebokbikgfaaDoorTopP
import Derived.Test.YtdpfebokbikgfaaDoorForkP
import Derived.Deep.DeepCutAuto
import Derived.Deep.CutRange
import Derived.Deep.CutBlock
namespace Go.Proofs.YtdpfebokbikgfaaDoor.mirrorComes
open Go.RowKit Go.WideShapes
set_option linter.unusedVariables false
attribute [local go_sem ↓] Go.wp_at_zero Go.wp_at_succ

/-- a mirror that had o, and heard so many of t -/
def com (key : Int) (es : List Ent) (o t : Nat) (hd h : Hd) (a : Nat) : Mi := if a < t ∨ (a = t ∧ 0 < o) then pg key es o hd h a else st key es t h
theorem com_pg {key : Int} {es : List Ent} {o t a : Nat} {hd h : Hd} (k : a < t ∨ (a = t ∧ 0 < o)) : com key es o t hd h a = pg key es o hd h a := if_pos k
theorem com_st {key : Int} {es : List Ent} {o t a : Nat} {hd h : Hd} (k : ¬ (a < t ∨ (a = t ∧ 0 < o))) : com key es o t hd h a = st key es t h := if_neg k
theorem take_ok {es : List Ent} {o t : Nat} (h : entsOk (es.take t)) (hot : o ≤ t) : entsOk (es.take o) := by
  have h1 : es.take o = (es.take t).take o := by rw [List.take_take, Nat.min_eq_left hot]
  rw [h1]
  exact ⟨by have := h.1; rw [List.length_take]; omega, fun e he => h.2 e (List.mem_of_mem_take he)⟩
theorem flat_take : ∀ (es : List Ent) (k : Nat), (es.flatMap Ent.cells).take (k * 2) = (es.take k).flatMap Ent.cells
  | [], k => by simp
  | e :: es, 0 => by simp
  | e :: es, k + 1 => by
    rw [List.flatMap_cons, List.take_succ_cons, List.flatMap_cons, ← flat_take es k, show (k + 1) * 2 = k * 2 + 2 by omega]
    rfl
theorem Rd_takeE {w : World} {A : Option Addr} {n c k : Nat} {es : List Ent} (h : Rd w 2 A n c (es.flatMap Ent.cells)) (hk : k ≤ n) : Rd w 2 A k c ((es.take k).flatMap Ent.cells) := by
  have := h.take hk
  rwa [flat_take] at this
/-- the proof that a log grew -/
theorem grow_ok {es : List Ent} {o t : Nat} (h : entsOk (es.take t)) (ht : t ≤ es.length) (h1 : 1 ≤ o) (hot : o < t) :
    gmK ((es.take t).map Ent.leaf) o t = 0 ∧ gcheck (ofL ((es.take o).map Ent.leaf)) o (ofL ((es.take t).map Ent.leaf)) t (gmV ((es.take t).map Ent.leaf) o t) = 0 := by
  have hlo := leafs_of_ents h
  have hlen : ((es.take t).map Ent.leaf).length = t := by rw [List.length_map, List.length_take]; omega
  obtain ⟨g1, g2⟩ := gmV_goP hlo h1 hot (by rw [hlen]; exact Nat.le_refl _)
  refine ⟨g1, ?_⟩
  rw [g2]
  have h2 := gcheck_grow (xs := (es.take t).map Ent.leaf) (o := o) (m := t) h1 (by omega) (by rw [hlen]; exact Nat.le_refl _) hlo
  have e1 : ((es.take t).map Ent.leaf).take o = (es.take o).map Ent.leaf := by rw [← List.map_take, List.take_take, Nat.min_eq_left (by omega)]
  have e2 : ((es.take t).map Ent.leaf).take t = (es.take t).map Ent.leaf := List.take_of_length_le (by rw [hlen]; exact Nat.le_refl _)
  rw [e1, e2] at h2
  show gcheck _ _ _ _ (goP _ _ _) = 0
  unfold goP
  rw [if_pos ⟨h1, hot⟩, e2]
  exact h2

/-- a mirror hears a page -/
theorem com_some (P : Nat → Prop) (mb : Nat) (key : Int) (es : List Ent) (hd h : Hd) (ad : Addr) (n c o t a b : Nat) (w0 W : World) (hE : Ext w0 W) (hD : DebG w0) (hPow : PowG w0) (hPn : ∀ g, W.heap.size ≤ g → P g) (hM : MM 83 W P mb (pg key es o hd h a)) (hoa : o ≤ a) (ha : a < t) (hb : b = min t (a + 16))
    (hr : Rd W 2 (some ad) n c (es.flatMap Ent.cells)) (hm : c ≤ maxLen) (htn : t ≤ n) (hk : entsOk (es.take t)) (hs : h.size = (t : Int)) (hro : h.root = ofL ((es.take t).map Ent.leaf)) :
    Calls Tryd.prog 19 #[.pointer (some ⟨mb, 0, none⟩), .agg #[.int .i64 2, .int .i64 0, .int .i64 0, .int .i64 0, .int .i64 0, .slice (some (ad.add (a * 2))) (b - a) (c - a), .slice none 0 0]] W fun e w' => e = .returned .nilIface ∧ MM 83 w' P mb (com key es o t hd h b) ∧ Chg W w' P := by
  have hx := hr.lenE
  have hnc := hr.2.1
  have hrW := hr.partE (a := a) (b := b) (by omega) (by omega)
  have h1 := Hear_any P mb (pg key es o hd h a) ⟨2, hd00, (es.take b).drop a, []⟩ (some (ad.add (a * 2))) (b - a) (c - a) none 0 0 W hM hPn (hD.ext hE) (hPow.ext hE) hrW (by omega) (Rd.nil _ _ _ _) (Nat.zero_le _)
  rw [pg_hear hoa ha (by omega) hs hk hro hb] at h1
  have e2 : (if o = 0 ∧ b = t then st key es t h else pg key es o hd h b) = com key es o t hd h b := by
    by_cases h2 : o = 0 ∧ b = t
    · rw [if_pos h2, com_st (by omega)]
    · rw [if_neg h2, com_pg (by omega)]
  rw [e2] at h1
  exact h1
/-- and a proof -/
theorem com_proof (P : Nat → Prop) (mb : Nat) (key : Int) (es : List Ent) (hd h : Hd) (A : Option Addr) (m c o t : Nat) (ps : List Int) (w0 W : World) (hE : Ext w0 W) (hD : DebG w0) (hPow : PowG w0) (hPn : ∀ g, W.heap.size ≤ g → P g) (hM : MM 83 W P mb (pg key es o hd h t)) (ho : o < t)
    (hr : Rd W 1 A m c (ps.map (Value.int .i64))) (hm : c ≤ maxLen) (htn : t ≤ es.length) (hk : entsOk (es.take t)) (hs : h.size = (t : Int)) (hro : h.root = ofL ((es.take t).map Ent.leaf)) (hg : gcheck (ofL ((es.take o).map Ent.leaf)) o (ofL ((es.take t).map Ent.leaf)) t ps = 0) :
    Calls Tryd.prog 19 #[.pointer (some ⟨mb, 0, none⟩), .agg #[.int .i64 3, .int .i64 0, .int .i64 0, .int .i64 0, .int .i64 0, .slice none 0 0, .slice A m c]] W fun e w' => e = .returned .nilIface ∧ MM 83 w' P mb (st key es t h) ∧ Chg W w' P := by
  have h1 := Hear_any P mb (pg key es o hd h t) ⟨3, hd00, [], ps⟩ none 0 0 A m c W hM hPn (hD.ext hE) (hPow.ext hE) (Rd.nil _ _ _ _) (Nat.zero_le _) hr hm
  rw [pg_hearP ho htn hs hk hro hg] at h1
  exact h1
/-- a head is heard -/
theorem com_head (P : Nat → Prop) (mb : Nat) (key : Int) (es : List Ent) (hd h : Hd) (o t : Nat) (w0 W : World) (hE : Ext w0 W) (hD : DebG w0) (hPow : PowG w0) (hPn : ∀ g, W.heap.size ≤ g → P g) (hM : MM 83 W P mb (st key es o hd)) (hot : o ≤ t) (htn : t ≤ es.length) (hk : entsOk (es.take t)) (hv : verK h key = 0) (hs : h.size = (t : Int)) (hro : h.root = ofL ((es.take t).map Ent.leaf)) (ht : h.time = 0) (hds : hd.size = (o : Int)) (hdt : 0 ≤ hd.time) :
    Calls Tryd.prog 19 #[.pointer (some ⟨mb, 0, none⟩), .agg #[.int .i64 1, .int .i64 h.size, .int .i64 h.root, .int .i64 h.time, .int .i64 h.sign, .slice none 0 0, .slice none 0 0]] W fun e w' => e = .returned .nilIface ∧ (∃ hd', MM 83 w' P mb (if o < t then pg key es o hd h o else st key es t hd') ∧ (o < t ∨ (hd'.size = (t : Int) ∧ 0 ≤ hd'.time))) ∧ Chg W w' P := by
  have h1 := Hear_any P mb (st key es o hd) ⟨1, h, [], []⟩ none 0 0 none 0 0 W hM hPn (hD.ext hE) (hPow.ext hE) (Rd.nil _ _ _ _) (Nat.zero_le _) (Rd.nil _ _ _ _) (Nat.zero_le _)
  by_cases hlt : o < t
  · rw [st_hear (by omega) hv (by rw [hs]; omega)] at h1
    refine h1.mono fun e w' hh => ⟨hh.1, ⟨hd, ?_, .inl hlt⟩, hh.2.2⟩
    rw [if_pos hlt]; exact hh.2.1
  · obtain rfl : o = t := by omega
    rw [st_same htn hk hv hs hro ht hds hdt] at h1
    refine h1.mono fun e w' hh => ⟨hh.1, ⟨hd, ?_, .inr ⟨hds, hdt⟩⟩, hh.2.2⟩
    rw [if_neg hlt]; exact hh.2.1

/-- where a mirror is that follows a log that grew -/
def ComInv (Q : Nat → Prop) (mb : Nat) (key : Int) (es : List Ent) (a t : Nat) (hd h : Hd) (k : Nat) (W : World) : Prop :=
  (∃ b, MM 83 W Q mb (pg key es a hd h b) ∧ a ≤ b ∧ a < t ∧ ((b < t ∧ b = a + 16 * k) ∨ (b = t ∧ 0 < a ∧ k ≤ 13))) ∨ (∃ hd2, MM 83 W Q mb (st key es t hd2) ∧ hd2.size = (t : Int) ∧ 0 ≤ hd2.time)

set_option maxRecDepth 100000 in
set_option maxHeartbeats 8000000 in
theorem walk_yes (key : Int) (A : Option Addr) (n c : Nat) (es : List Ent) (A3 : Option Addr) (m c3 : Nat) (zs : List Int) (w : World)
    (hm : c ≤ maxLen) (hr : Rd w 2 A n c (es.flatMap Ent.cells)) (hm3 : c3 ≤ maxLen) (hr3 : Rd w 1 A3 m c3 (zs.map (Value.int .i64)))
    (hD : DebG w) (hP : PowG w) (hkey : keyI key = true) :
    Calls Tryd.prog 6 #[.int .i64 key, .slice A n c, .slice A3 m c3] w fun e w' => e = .returned (.bool true) ∧ Ext w w' := by
  obtain ⟨hE, hN, hG0⟩ := errR_rules
  have hfw := field_want
  have hx := hr.lenE
  have hx3 := hr3.lenI
  have hnc := hr.2.1
  have hmc := hr3.2.1
  have hcs : c ≤ 9223372036854775807 := by unfold maxLen at hm; omega
  have hcs3 : c3 ≤ 9223372036854775807 := by unfold maxLen at hm3; omega
  have HNW := Lib.hid fun k W => MNew_any k W
  have HK := Lib.hid hkey
  have HR := Lib.hid hr
  have HR3 := Lib.hid hr3
  have HX := Lib.hid hx
  have HX3 := Lib.hid hx3
  have HD := Lib.hid hD
  have HPW := Lib.hid hP
  have HM := Lib.hid hm
  have HM3 := Lib.hid hm3
  clear hkey hr hr3 hx hx3 hD hP hm hm3
  go_enter Tryd.func6, Tryd.ntmps6
  go_wp2_with fail
  refine (HNW.out 7 _).mono ?_
  rintro _ w1 hnew
  rcases hnew with ⟨h1, _⟩ | ⟨_, rfl, hmi, hb1⟩
  · exact absurd h1 (by decide)
  rw [errR_0]
  have HMI := Lib.hid hmi
  have E1 := Lib.hid hb1
  obtain ⟨m1, hm1⟩ : ∃ x, w.heap.size = x := ⟨_, rfl⟩
  rw [hm1] at HMI
  rw [hm1]
  have HMW := Lib.hid hm1
  clear hmi hb1 hm1
  have HW1 : Hid (∀ W, Ext w1 W → Calls Tryd.prog 20 #[.pointer (some ⟨m1, 0, none⟩)] W fun e w' => e = .returned (.agg #[.int .i64 1, .int .i64 0, .int .i64 0]) ∧ Ext W w') := Lib.hid fun W e => MWant_any m1 _ _ (Mi.new 7) W (HMI.out.ext e)
  have HS1 : Hid (∀ W, Ext w1 W → Calls Tryd.prog 21 #[.pointer (some ⟨m1, 0, none⟩)] W fun e w' => e = .returned (.int .i64 0) ∧ W = w') := Lib.hid fun W e => MSize_any m1 _ _ (Mi.new 7) W (HMI.out.ext e)
  go_wp2_with fail
  refine (HW1.out _ (Ext.refl _)).mono ?_
  rintro _ w2 ⟨rfl, hb2⟩
  have HE2 := Lib.hid hb2
  clear hb2
  go_wp2_with fail
  refine (HS1.out _ HE2.out).mono ?_
  rintro _ _ ⟨rfl, rfl⟩
  have E2 := Lib.hid (E1.out.trans HE2.out)
  clear HW1 HS1 HE2 HMI E1
  go_wp2_with fail
  refine (HNW.out key _).mono ?_
  rintro _ w3 hnew
  rcases hnew with ⟨h1, _⟩ | ⟨_, rfl, hmi, hb3⟩
  · rw [HK.out] at h1; cases h1
  rw [errR_0]
  have HMI := Lib.hid hmi
  have E3 := Lib.hid (E2.out.trans hb3)
  have hmb0 := E2.out.size
  obtain ⟨mb, hmb⟩ : ∃ x, w2.heap.size = x := ⟨_, rfl⟩
  rw [hmb] at HMI hmb0
  rw [hmb]
  clear hmi hb3 hmb HNW E2 HMW
  -- where the mirror lies
  obtain ⟨P, hPdef⟩ : ∃ P : Nat → Prop, P = fun g => w.heap.size ≤ g := ⟨_, rfl⟩
  have HM0 : Hid (MM 83 w3 P mb (st key es 0 hd00)) := Lib.hid ⟨_, _, HMI.out, fun g hg => by
    rcases hg with rfl | hg | hg
    · rw [hPdef]; exact hmb0
    · simp [Value.ownBlock] at hg
    · simp [Value.ownBlock] at hg⟩
  have HPN : Hid (∀ W, Ext w W → ∀ g, W.heap.size ≤ g → P g) := Lib.hid fun W k g hg => by rw [hPdef]; have := k.size; show w.heap.size ≤ g; omega
  have HPE : Hid (∀ W W', Ext w W → Chg W W' P → Ext w W') := Lib.hid fun W W' e k => k.extW e fun g hg hp => by
    rw [hPdef] at hp
    have hp' : w.heap.size ≤ g := hp
    omega
  have HPG : Hid (∀ g, w.heap.size ≤ g → P g) := Lib.hid fun g hg => by rw [hPdef]; exact hg
  have HPL : Hid (∀ g, P g → w.heap.size ≤ g) := Lib.hid fun g hg => by rw [hPdef] at hg; exact hg
  clear hPdef HMI hmb0
  go_wp2_with fail
  go_loopw [11, 12] (fun x y wr => ∃ (a i : Nat) (hd : Hd), x = .int .i64 a ∧ y = .int .i64 i ∧ i ≤ 12 ∧ i ≤ m ∧ a ≤ n ∧ Hid (Ext w wr) ∧ Hid (MM 83 wr P mb (st key es a hd)) ∧ Hid (hd.size = (a : Int) ∧ 0 ≤ hd.time)) (fun _ y _ => 12 - (intOf y).toNat)
  case atStart => exact ⟨0, 0, hd00, rfl, rfl, Nat.zero_le _, Nat.zero_le _, Nat.zero_le _, E3, HM0, Lib.hid ⟨rfl, Int.le_refl _⟩⟩
  case round =>
    obtain ⟨a, i, hd, rfl, rfl, hi12, him, han, EW, HMr, HHD⟩ := hrel
    by_cases hc : i < m ∧ i < 12
    case neg =>
      have hc' : (¬ (i : Int) < (m : Int)) ∨ ((i : Int) < (m : Int) ∧ ¬ (i : Int) < 12) := by omega
      have hst := HMr.out.sizeC
      have hol : ((st key es a hd).own.length : Int) = (a : Int) := by
        show ((es.take a).length : Int) = (a : Int)
        rw [List.length_take, HX.out]; omega
      rw [hol] at hst
      have HST := Lib.hid hst
      clear hst hol hc
      rcases hc' with h | ⟨h, h2⟩
      all_goals
        go_wp2_with fail
        refine HST.out.mono ?_
        rintro _ _ ⟨rfl, rfl⟩
        go_wp2_with fail
        go_ret
        exact ⟨rfl, EW.out⟩
    obtain ⟨hc1, hc2⟩ := hc
    have hc1' : (i : Int) < (m : Int) := by omega
    have hc2' : (i : Int) < 12 := by omega
    have hgz := List.getElem?_eq_getElem (l := zs) (i := i) (by rw [HX3.out]; exact hc1)
    generalize zs[i]'(by rw [HX3.out]; exact hc1) = z at *
    obtain ⟨adz, rfl, hbz, cz⟩ := (HR3.out.ext EW.out).getI hgz
    clear hgz
    by_cases hz : (a : Int) ≤ z ∧ z ≤ n ∧ z ≤ 200
    case neg =>
      have h' : z < (a : Int) ∨ ((a : Int) ≤ z ∧ (n : Int) < z) ∨ ((a : Int) ≤ z ∧ z ≤ (n : Int) ∧ 200 < z) := by omega
      clear hz
      rcases h' with h | ⟨h, h2⟩ | ⟨h, h2, h3⟩
      all_goals
        go_wp2_with fail
        go_roundw
        case rel => exact ⟨a, i + 1, hd, rfl, by go_num, by omega, by omega, han, EW, HMr, HHD⟩
        case measure => simp [intOf]; omega
    obtain ⟨hz1, hz2, hz3⟩ := hz
    obtain ⟨t, rfl⟩ := Int.eq_ofNat_of_zero_le (show 0 ≤ z by omega)
    have hat : a ≤ t := by omega
    have htn : t ≤ n := by omega
    have ht200 : t ≤ 200 := by omega
    have htc : t ≤ c := by omega
    have HRT : Hid (∀ W, Ext w W → Rd W 2 A t c ((es.take t).flatMap Ent.cells)) := Lib.hid fun W e => Rd_takeE (HR.out.ext e) htn
    have htl : (es.take t).length = t := by rw [List.length_take, HX.out]; omega
    have HTL := Lib.hid htl
    have HSH : Hid (∀ W, Ext w W → Calls Tryd.prog 11 #[.slice A t c, .int .i64 key, .int .i64 0] W fun e w' => e = .returned (.tuple #[(shH (es.take t) key 0).val, errR (shK (es.take t) key 0)]) ∧ Ext W w') := Lib.hid fun W e => SHead_any A t c (es.take t) key 0 W (HRT.out W e) HM.out (HD.out.ext e) (HPW.out.ext e)
    have HPT : Hid (shK (es.take t) key 0 = 0 → entsOk (es.take t) ∧ verK (shH (es.take t) key 0) key = 0 ∧ (shH (es.take t) key 0).size = (t : Int) ∧ (shH (es.take t) key 0).root = ofL ((es.take t).map Ent.leaf) ∧ (shH (es.take t) key 0).time = 0) := Lib.hid fun e => by
      obtain ⟨q1, q2, q3, _⟩ := sh_parts e
      exact ⟨q1, q3, by rw [q2, htl], by rw [q2], by rw [q2]⟩
    obtain ⟨h, hh⟩ : ∃ x, shH (es.take t) key 0 = x := ⟨_, rfl⟩
    obtain ⟨sk, hsk⟩ : ∃ x, shK (es.take t) key 0 = x := ⟨_, rfl⟩
    rw [hh, hsk] at HSH HPT
    clear hh hsk htl
    obtain ⟨h0, h1, h2, h3⟩ := h
    simp only [Hd.val] at HSH
    go_wp2_with fail
    refine (HSH.out _ EW.out).mono ?_
    rintro _ w4 ⟨rfl, hb4⟩
    have B4 := Bk.at_ w4 31 #[.int .i64 h0, .int .i64 h1, .int .i64 h2, .int .i64 h3] w4.heap.size rfl
    have e4 : Ext wr (w4.alloc (.cells #[.int .i64 h0, .int .i64 h1, .int .i64 h2, .int .i64 h3] 31)) := hb4.alloc _
    go_upto_region 14 with (fail)
    generalize w4.alloc (.cells #[.int .i64 h0, .int .i64 h1, .int .i64 h2, .int .i64 h3] 31) = W4 at *
    generalize w4.heap.size = g4 at *
    have HB4 := Lib.hid B4
    have EW4 := Lib.hid (EW.out.trans e4)
    have HM4 := Lib.hid (HMr.out.ext e4)
    clear hb4 e4 B4 HSH
    by_cases hs : sk = 0
    case neg =>
      have hok := isOk_no hs
      clear hs HPT
      go_wp2_with fail
      go_ret
      exact ⟨rfl, EW4.out⟩
    obtain ⟨hek, hv, hsz, hro, htm⟩ := HPT.out hs
    subst hs
    rw [errR_0]
    have HLF : Hid (∀ W, Ext w W → Calls Tryd.prog 24 #[.slice A t c] W fun e w' => (∃ A2 c2, e = .returned (.tuple #[.slice A2 t c2, .nilIface]) ∧ c2 ≤ maxLen ∧ w'.ownsRow W.heap.size 3 1 (.slice A2 t c2) t (((es.take t).map Ent.leaf).map (Value.int .i64))) ∧ Ext W w') := Lib.hid fun W e => by
      have h1 := Leafs_ok A t c (es.take t) W (HRT.out W e) HM.out hek
      rw [HTL.out] at h1
      refine h1.mono fun e' w' hh => ?_
      obtain ⟨⟨v, q1, q2⟩, q3⟩ := hh
      obtain ⟨A2, c2, rfl, q4, _, _⟩ := own_rd q2
      exact ⟨⟨A2, c2, q1, q4, q2⟩, q3⟩
    have HEK := Lib.hid hek
    have HV := Lib.hid hv
    have HSZ := Lib.hid hsz
    have HRO := Lib.hid hro
    have HTM := Lib.hid htm
    clear HPT hek hv hsz hro htm
    go_wp2_with fail
    refine (HLF.out _ EW4.out).mono ?_
    rintro _ w5 ⟨⟨A2, c2, rfl, hc2, own5⟩, hb5⟩
    have HC2 := Lib.hid hc2
    have HOW := Lib.hid own5
    have E5 := Lib.hid (EW4.out.trans hb5)
    have HM5 := HM4.out.ext hb5
    have HM5' := Lib.hid HM5
    have B5 := HB4.out.ext hb5
    have y0 := B5.cell 0
    have y1 := B5.cell 1
    have y2 := B5.cell 2
    have y3 := B5.cell 3
    -- where the mirror lies from here on
    obtain ⟨Q, HQ⟩ : ∃ Q : Nat → Prop, Hid ((MM 83 w5 Q mb (st key es a hd)) ∧ (∀ g, w5.heap.size ≤ g → Q g) ∧ (∀ g, Q g → w.heap.size ≤ g) ∧ ∀ ad, A2 = some ad → ¬ Q ad.block) := by
      obtain ⟨va, vw, q1, q2⟩ := HM5
      refine ⟨fun g => MFoot mb va vw g ∨ w5.heap.size ≤ g, Lib.hid ⟨⟨va, vw, q1, fun g hg => .inl hg⟩, fun g hg => .inr hg, fun g hg => ?_, fun ad e hg => ?_⟩⟩
      · rcases hg with hg | hg
        · exact HPL.out g (q2 g hg)
        · have := E5.out.size; omega
      · subst e
        rcases hg with hg | hg
        · rcases hg with hg | hg | hg
          · exact own_type HOW.out q1.bk (by decide) (by rw [← hg]; rfl)
          · exact own_own HOW.out q1.own (by decide) rfl hg
          · exact own_own HOW.out q1.waits (by decide) rfl hg
        · have := (HOW.out.lt ad.block rfl).2; omega
    have HRL := Lib.hid (show Rd w5 1 A2 t c2 (((es.take t).map Ent.leaf).map (Value.int .i64)) from by
      obtain ⟨B, d, q1, _, q3, _⟩ := own_rd HOW.out
      injection q1 with q1 q2 q4
      subst q1 q4
      exact q3)
    have HQE : Hid (∀ W, Chg w5 W Q → Ext w W) := Lib.hid fun W k => k.extW E5.out fun g hg hp => by have := HQ.out.2.2.1 g hp; omega
    have HQN : Hid (∀ W, Chg w5 W Q → ∀ g, W.heap.size ≤ g → Q g) := Lib.hid fun W k g hg => HQ.out.2.1 g (by have := k.size; omega)
    have HQL : Hid (∀ W, Chg w5 W Q → Rd W 1 A2 t c2 (((es.take t).map Ent.leaf).map (Value.int .i64))) := Lib.hid fun W k => HRL.out.chg k fun _ ad e => HQ.out.2.2.2 ad e
    clear hb5 own5 HM5 HM4 HB4 B5 HMr HLF
    go_wp2_with fail
    refine (com_head Q mb key es hd ⟨h0, h1, h2, h3⟩ a t w w5 E5.out HD.out HPW.out HQ.out.2.1 HQ.out.1 hat (by rw [HX.out]; exact htn) HEK.out HV.out HSZ.out HRO.out HTM.out HHD.out.1 HHD.out.2).mono ?_
    rintro _ w6 ⟨rfl, ⟨hd', hm6, hq6⟩, hg6⟩
    have HM6 := Lib.hid hm6
    have HQ6 := Lib.hid hq6
    have HG6 := Lib.hid hg6
    clear hm6 hq6 hg6 y0 y1 y2 y3
    go_wp2_with fail
    have HI0 : Hid (ComInv Q mb key es a t hd ⟨h0, h1, h2, h3⟩ 0 w6) := Lib.hid (by
      by_cases hlt : a < t
      · have := HM6.out
        rw [if_pos hlt] at this
        exact .inl ⟨a, this, Nat.le_refl _, hlt, .inl ⟨hlt, by omega⟩⟩
      · have := HM6.out
        rw [if_neg hlt] at this
        exact .inr ⟨hd', this, HQ6.out.resolve_left hlt⟩)
    clear HM6 HQ6
    go_loopw [16] (fun x wr => ∃ k : Nat, x = .int .i64 k ∧ k ≤ 14 ∧ Hid (Chg w5 wr Q) ∧ Hid (ComInv Q mb key es a t hd ⟨h0, h1, h2, h3⟩ k wr)) (fun x _ => 30 - (intOf x).toNat)
    case atStart => exact ⟨0, rfl, Nat.zero_le _, HG6, HI0⟩
    case round =>
      obtain ⟨k, rfl, hk14, HG, HI⟩ := hrel
      have hk30 : (k : Int) < 30 := by omega
      rcases HI.out with ⟨b, hMb, hab, hlt, hb⟩ | ⟨hd2, hMs, hq2⟩
      · have HMb := Lib.hid hMb
        clear HI hMb
        rcases hb with ⟨hbt, hbk⟩ | ⟨hbt, ha0, hk13⟩
        · have HBK := Lib.hid hbk
          obtain ⟨ad, hAd, -, -⟩ := HR.out.2.2 (by omega)
          subst hAd
          have hw := HMb.out.want
          rw [pg_want hab hbt (by rw [HX.out]; exact htn) HSZ.out] at hw
          obtain ⟨b', hb'⟩ : ∃ x, min t (b + 16) = x := ⟨_, rfl⟩
          rw [hb'] at hw
          have HB' := Lib.hid hb'.symm
          have hbb : b ≤ b' := by omega
          have hbt' : b' ≤ t := by omega
          have hWT : ∀ W, Ext wr W → Calls Tryd.prog 20 #[.pointer (some ⟨mb, 0, none⟩)] W fun e w' => e = .returned (.agg #[.int .i64 2, .int .i64 b, .int .i64 b']) ∧ Ext W w' := fun W e => by
            have := (HMb.out.ext e).want
            rw [pg_want hab hbt (by rw [HX.out]; exact htn) HSZ.out, hb'] at this
            exact this
          have HWT := Lib.hid hWT
          clear hw hb' hWT hbk
          go_wp2_with fail
          refine (HWT.out _ (Ext.refl _)).mono ?_
          rintro _ x1 ⟨rfl, hx1⟩
          have X1 := Lib.hid hx1
          clear hx1
          go_wp2_with fail
          refine (HWT.out _ X1.out).mono ?_
          rintro _ x2 ⟨rfl, hx2⟩
          have B7 := Bk.at_ x2 55 #[.int .i64 2, .int .i64 b, .int .i64 b'] x2.heap.size rfl
          have e7 : Ext wr (x2.alloc (.cells #[.int .i64 2, .int .i64 b, .int .i64 b'] 55)) := (X1.out.trans hx2).alloc _
          go_upto_region 25 with (fail)
          generalize x2.alloc (.cells #[.int .i64 2, .int .i64 b, .int .i64 b'] 55) = W7 at *
          generalize x2.heap.size = g7 at *
          have z0 := B7.cell 0
          have X7 := Lib.hid e7
          have B8 := Bk.at_ W7 53 #[.int .i64 2, .int .i64 0, .int .i64 0, .int .i64 0, .int .i64 0, .slice none 0 0, .slice none 0 0] W7.heap.size rfl
          have e8 : Ext W7 (W7.alloc (.cells #[.int .i64 2, .int .i64 0, .int .i64 0, .int .i64 0, .int .i64 0, .slice none 0 0, .slice none 0 0] 53)) := (Ext.refl _).alloc _
          have hs7 := e7.size
          clear hx2 e7 X1 HWT
          go_upto_region 26 with (fail)
          generalize W7.alloc (.cells #[.int .i64 2, .int .i64 0, .int .i64 0, .int .i64 0, .int .i64 0, .slice none 0 0, .slice none 0 0] 53) = W8 at *
          generalize W7.heap.size = g8 at *
          have B7' := B7.ext e8
          have X8 := Lib.hid (X7.out.trans e8)
          clear z0
          have z0 := B7'.cell 0
          have z1 := B7'.cell 1
          have z2 := B7'.cell 2
          have y5 := B8.cell 5
          have f5 := B8.frozen 5
          have n1 : ¬ ((b : Int) < 0) := by omega
          have n2 : ((b' : Int) < (b : Int)) = False := eq_false (by omega)
          have n3 : ((t : Int) < (b' : Int)) = False := eq_false (by omega)
          clear e8 B7 X7
          go_upto_region 34 with (fail)
          have B9 : Bk (W8.setCell ⟨g8, 5, none⟩ (.slice (some (ad.add (b * 2))) (b' - b) (c - b))) g8 53 #[.int .i64 2, .int .i64 0, .int .i64 0, .int .i64 0, .int .i64 0, .slice (some (ad.add (b * 2))) (b' - b) (c - b), .slice none 0 0] := B8.set_ 5 _
          have e9 : Ext wr (W8.setCell ⟨g8, 5, none⟩ (.slice (some (ad.add (b * 2))) (b' - b) (c - b))) := X8.out.setCell hs7 _
          generalize W8.setCell ⟨g8, 5, none⟩ (.slice (some (ad.add (b * 2))) (b' - b) (c - b)) = W9 at *
          have r0 := B9.cell 0
          have r1 := B9.cell 1
          have r2 := B9.cell 2
          have r3 := B9.cell 3
          have r4 := B9.cell 4
          have r5 := B9.cell 5
          have r6 := B9.cell 6
          have HC9 := Lib.hid (HG.out.trans (e9.chg Q) fun _ _ h => h)
          have HH := Lib.hid (com_some Q mb key es hd ⟨h0, h1, h2, h3⟩ ad n c a t b b' w W9 (HQE.out _ HC9.out) HD.out HPW.out (HQN.out _ HC9.out) (HMb.out.ext e9) hab hbt HB'.out (HR.out.ext (HQE.out _ HC9.out)) HM.out htn HEK.out HSZ.out HRO.out)
          clear z0 z1 z2 y5 f5 n1 n2 n3 B9 e9 B8 B7' X8
          go_wp2_with fail
          refine HH.out.mono ?_
          rintro _ x4 ⟨rfl, hm4, hg4⟩
          have HG4 := Lib.hid (HC9.out.trans hg4 fun _ _ h => h)
          have HI4 : Hid (ComInv Q mb key es a t hd ⟨h0, h1, h2, h3⟩ (k + 1) x4) := Lib.hid (by
            have q1 := HB'.out
            have q2 := HBK.out
            by_cases hl : b' < t
            · rw [com_pg (.inl hl)] at hm4
              exact .inl ⟨b', hm4, by omega, hlt, .inl ⟨hl, by omega⟩⟩
            · by_cases ha0 : 0 < a
              · rw [com_pg (.inr ⟨by omega, ha0⟩)] at hm4
                exact .inl ⟨b', hm4, by omega, hlt, .inr ⟨by omega, ha0, by omega⟩⟩
              · rw [com_st (by omega)] at hm4
                exact .inr ⟨_, hm4, HSZ.out, by rw [HTM.out]; exact Int.le_refl _⟩)
          have hk12 : k ≤ 12 := by have := HBK.out; omega
          clear hm4 hg4 r0 r1 r2 r3 r4 r5 r6 HH
          go_wp2_with fail
          go_roundw
          case rel => exact ⟨k + 1, by go_num, by omega, HG4, HI4⟩
          case measure => simp [intOf]; omega
        · have HMt : Hid (MM 83 wr Q mb (pg key es a hd ⟨h0, h1, h2, h3⟩ t)) := Lib.hid (by rw [← hbt]; exact HMb.out)
          have hwa : (pg key es a hd ⟨h0, h1, h2, h3⟩ t).want = ⟨3, (a : Int), (t : Int)⟩ := pg_wantP hat (by omega) (by rw [HX.out]; exact htn) HSZ.out
          have hWT : ∀ W, Ext wr W → Calls Tryd.prog 20 #[.pointer (some ⟨mb, 0, none⟩)] W fun e w' => e = .returned (.agg #[.int .i64 3, .int .i64 a, .int .i64 t]) ∧ Ext W w' := fun W e => by
            have := (HMt.out.ext e).want
            rw [hwa] at this
            exact this
          have HWT := Lib.hid hWT
          obtain ⟨gk1, gk2⟩ := grow_ok (es := es) HEK.out (by rw [HX.out]; exact htn) ha0 hlt
          have HGK := Lib.hid gk2
          have HGM : Hid (∀ W, Chg w5 W Q → Calls Tryd.prog 28 #[.slice A2 t c2, .int .i64 a, .int .i64 t] W fun e w' => (∃ A6 k6 c6, e = .returned (.tuple #[.slice A6 k6 c6, .nilIface]) ∧ c6 ≤ maxLen ∧ Rd w' 1 A6 k6 c6 ((gmV ((es.take t).map Ent.leaf) a t).map (Value.int .i64)) ∧ ∀ ad, A6 = some ad → W.heap.size ≤ ad.block) ∧ Ext W w') := Lib.hid fun W e => by
            have h1 := GMake_any A2 t c2 ((es.take t).map Ent.leaf) a t W (HQL.out W e) HC2.out
            rw [gk1] at h1
            refine h1.mono fun e' w' hh => ?_
            obtain ⟨⟨v, q1, q2⟩, q3⟩ := hh
            obtain ⟨A6, c6, rfl, q4, q5⟩ := q2.rd
            exact ⟨⟨A6, _, c6, q1, q4, q5, own_addr q2⟩, q3⟩
          clear hwa hWT gk1 gk2 HMb hbt
          go_wp2_with fail
          refine (HWT.out _ (Ext.refl _)).mono ?_
          rintro _ x1 ⟨rfl, hx1⟩
          have X1 := Lib.hid hx1
          clear hx1
          go_wp2_with fail
          refine (HWT.out _ X1.out).mono ?_
          rintro _ x2 ⟨rfl, hx2⟩
          have B7 := Bk.at_ x2 55 #[.int .i64 3, .int .i64 a, .int .i64 t] x2.heap.size rfl
          have e7 : Ext wr (x2.alloc (.cells #[.int .i64 3, .int .i64 a, .int .i64 t] 55)) := (X1.out.trans hx2).alloc _
          go_upto_region 25 with (fail)
          generalize x2.alloc (.cells #[.int .i64 3, .int .i64 a, .int .i64 t] 55) = W7 at *
          generalize x2.heap.size = g7 at *
          have z0 := B7.cell 0
          have X7 := Lib.hid e7
          have B8 := Bk.at_ W7 53 #[.int .i64 3, .int .i64 0, .int .i64 0, .int .i64 0, .int .i64 0, .slice none 0 0, .slice none 0 0] W7.heap.size rfl
          have e8 : Ext W7 (W7.alloc (.cells #[.int .i64 3, .int .i64 0, .int .i64 0, .int .i64 0, .int .i64 0, .slice none 0 0, .slice none 0 0] 53)) := (Ext.refl _).alloc _
          have hs7 := e7.size
          clear hx2 e7 X1 HWT
          go_upto_region 26 with (fail)
          generalize W7.alloc (.cells #[.int .i64 3, .int .i64 0, .int .i64 0, .int .i64 0, .int .i64 0, .slice none 0 0, .slice none 0 0] 53) = W8 at *
          generalize W7.heap.size = g8 at *
          have B7' := B7.ext e8
          have X8 := Lib.hid (X7.out.trans e8)
          clear z0
          have z0 := B7'.cell 0
          have z1 := B7'.cell 1
          have z2 := B7'.cell 2
          have n1 : ¬ ((a : Int) < 0) := by omega
          have n2 : ((t : Int) < (a : Int)) = False := eq_false (by omega)
          have HC8 := Lib.hid (HG.out.trans (X8.out.chg Q) fun _ _ h => h)
          clear e8 B7 X7
          go_wp2_with fail
          refine (HGM.out _ HC8.out).mono ?_
          rintro _ x3 ⟨⟨A6, k6, c6, rfl, hc6, R6, hA6⟩, hx3⟩
          have hg8 := B8.lt
          have HA6 : Hid (∀ ad, A6 = some ad → g8 < ad.block) := Lib.hid fun ad e => by have := hA6 ad e; omega
          have B8' := B8.ext hx3
          have y6 := B8'.cell 6
          have f6 := B8'.frozen 6
          have X9 := Lib.hid (X8.out.trans hx3)
          have HR6 := Lib.hid R6
          have HC6 := Lib.hid hc6
          clear z0 z1 z2 n1 n2 B7' hx3 R6 hc6 HGM hA6 hg8
          go_upto_region 34 with (fail)
          have B9 : Bk (x3.setCell ⟨g8, 6, none⟩ (.slice A6 k6 c6)) g8 53 #[.int .i64 3, .int .i64 0, .int .i64 0, .int .i64 0, .int .i64 0, .slice none 0 0, .slice A6 k6 c6] := B8'.set_ 6 _
          have e9 : Ext wr (x3.setCell ⟨g8, 6, none⟩ (.slice A6 k6 c6)) := X9.out.setCell hs7 _
          have R9 : Rd (x3.setCell ⟨g8, 6, none⟩ (.slice A6 k6 c6)) 1 A6 k6 c6 ((gmV ((es.take t).map Ent.leaf) a t).map (Value.int .i64)) := HR6.out.kept (gb_set x3 g8 6 (.slice A6 k6 c6)) (fun _ ad e h => by
            have := HA6.out ad e
            injection h with h
            omega)
          have HR9 := Lib.hid R9
          generalize x3.setCell ⟨g8, 6, none⟩ (.slice A6 k6 c6) = W9 at *
          have r0 := B9.cell 0
          have r1 := B9.cell 1
          have r2 := B9.cell 2
          have r3 := B9.cell 3
          have r4 := B9.cell 4
          have r5 := B9.cell 5
          have r6 := B9.cell 6
          have HC9 := Lib.hid (HG.out.trans (e9.chg Q) fun _ _ h => h)
          have HH := Lib.hid (com_proof Q mb key es hd ⟨h0, h1, h2, h3⟩ A6 k6 c6 a t (gmV ((es.take t).map Ent.leaf) a t) w W9 (HQE.out _ HC9.out) HD.out HPW.out (HQN.out _ HC9.out) (HMt.out.ext e9) hlt HR9.out HC6.out (by rw [HX.out]; exact htn) HEK.out HSZ.out HRO.out HGK.out)
          clear y6 f6 B9 e9 B8 B8' X8 X9 R9
          go_wp2_with fail
          refine HH.out.mono ?_
          rintro _ x4 ⟨rfl, hm4, hg4⟩
          have HG4 := Lib.hid (HC9.out.trans hg4 fun _ _ h => h)
          have HI4 : Hid (ComInv Q mb key es a t hd ⟨h0, h1, h2, h3⟩ (k + 1) x4) := Lib.hid (.inr ⟨_, hm4, HSZ.out, by rw [HTM.out]; exact Int.le_refl _⟩)
          clear hm4 hg4 r0 r1 r2 r3 r4 r5 r6 HH
          go_wp2_with fail
          go_roundw
          case rel => exact ⟨k + 1, by go_num, by omega, HG4, HI4⟩
          case measure => simp [intOf]; omega
      · have HMs := Lib.hid hMs
        have HQ2 := Lib.hid hq2
        have HWS : Hid (∀ W, Ext wr W → Calls Tryd.prog 20 #[.pointer (some ⟨mb, 0, none⟩)] W fun e w' => e = .returned (.agg #[.int .i64 1, .int .i64 0, .int .i64 0]) ∧ Ext W w') := Lib.hid fun W e => by
          have := (HMs.out.ext e).want
          rw [show (st key es t hd2).want = ⟨1, 0, 0⟩ from if_pos rfl] at this
          exact this
        have HEN : Hid (∀ W, Ext wr W → Calls Tryd.prog 23 #[.pointer (some ⟨mb, 0, none⟩)] W fun e w' => (∃ A6 c6, e = .returned (.slice A6 t c6) ∧ c6 ≤ maxLen ∧ Rd w' 2 A6 t c6 ((es.take t).flatMap Ent.cells)) ∧ Ext W w') := Lib.hid fun W e => by
          have h1 := (HMs.out.ext e).entriesC
          refine h1.mono fun e' w' hh => ?_
          obtain ⟨⟨v, q1, q2⟩, q3⟩ := hh
          have q2' : w'.ownsRow W.heap.size 42 2 v t ((es.take t).flatMap Ent.cells) := by
            have h2 : (st key es t hd2).own.length = t := HTL.out
            rw [h2] at q2
            exact q2
          obtain ⟨A6, c6, rfl, q4, q5, _⟩ := own_rd q2'
          exact ⟨⟨A6, c6, q1, q4, q5⟩, q3⟩
        have hEW : Ext w wr := HQE.out _ HG.out
        have HSM : Hid (∀ W W0 A6 c6, Ext w W → Ext W0 W → Rd W0 2 A6 t c6 ((es.take t).flatMap Ent.cells) → c6 ≤ maxLen → Calls Tryd.prog 9 #[.slice A6 t c6, .slice A t c] W fun e w' => e = .returned (.bool true) ∧ Ext W w') := Lib.hid fun W W0 A6 c6 e e0 hR hc => Entries_yes A6 A t c6 c (es.take t) W (hR.ext e0) (HRT.out W e) (by omega)
        clear hMs hq2 HI
        go_wp2_with fail
        refine (HWS.out _ (Ext.refl _)).mono ?_
        rintro _ x1 ⟨rfl, hx1⟩
        go_wp2_with fail
        go_region_with (first
          | (go_at_call 23; refine (HEN.out _ ?_).mono ?_; (focus ((repeat (with_reducible first | exact Ext.refl _ | assumption | refine Ext.drew ?_ | refine Ext.drewN ?_ _ | refine Ext.alloc ?_ _ | refine Ext.trans ?_ (by with_reducible assumption))); done)); rintro _ x6 ⟨⟨A6, c6, rfl, hc6, R6⟩, hb6⟩; have HC6 := Lib.hid hc6; have HR6 := Lib.hid R6; clear hc6 R6)
          | (go_at_call 9; refine (HSM.out _ _ _ _ ?_ ?_ HR6.out HC6.out).mono ?_; (focus ((repeat (with_reducible first | exact Ext.refl _ | assumption | refine Ext.drew ?_ | refine Ext.drewN ?_ _ | refine Ext.alloc ?_ _ | refine Ext.trans ?_ (by with_reducible assumption))); done)); (focus ((repeat (with_reducible first | exact Ext.refl _ | assumption | refine Ext.drew ?_ | refine Ext.drewN ?_ _ | refine Ext.alloc ?_ _ | refine Ext.trans ?_ (by with_reducible assumption))); done)); rintro _ x7 ⟨rfl, hb7⟩)
          | fail)
        all_goals
          have hE7 : Ext wr x7 := Ext.trans (by (repeat (with_reducible first | exact Ext.refl _ | assumption | refine Ext.drew ?_ | refine Ext.drewN ?_ _ | refine Ext.alloc ?_ _ | refine Ext.trans ?_ (by with_reducible assumption)))) hb7
          have HE7 := Lib.hid hE7
          clear hb7 hE7 hb6 hx1
          go_wp2_with fail
          refine (HWS.out _ ?_).mono ?_
          · have hE7 := HE7.out
            (repeat (with_reducible first | exact Ext.refl _ | assumption | refine Ext.drew ?_ | refine Ext.drewN ?_ _ | refine Ext.alloc ?_ _ | refine Ext.trans ?_ (by with_reducible assumption)))
          rintro _ x8 ⟨rfl, hb8⟩
          have HE8 : Hid (Ext wr x8) := Lib.hid (Ext.trans (by have hE7 := HE7.out; (repeat (with_reducible first | exact Ext.refl _ | assumption | refine Ext.drew ?_ | refine Ext.drewN ?_ _ | refine Ext.alloc ?_ _ | refine Ext.trans ?_ (by with_reducible assumption)))) hb8)
          have HW8 : Hid (Ext w x8) := Lib.hid (hEW.trans HE8.out)
          have HM8 : Hid (MM 83 x8 P mb (st key es t hd2)) := Lib.hid ((HMs.out.ext HE8.out).mono fun g hg _ => HPG.out g (HQ.out.2.2.1 g hg))
          clear hb8
          go_wp2_with fail
          go_roundw
          case rel => exact ⟨t, i + 1, hd2, rfl, by go_num, by omega, by omega, htn, HW8, HM8, HQ2⟩
          case measure => simp [intOf]; omega

set_option maxRecDepth 100000 in
set_option maxHeartbeats 1000000 in
theorem walk (key : Int) (A : Option Addr) (n c : Nat) (es : List Ent) (A3 : Option Addr) (m c3 : Nat) (zs : List Int) (w : World)
    (gk : igood key) (hl : es.length = n) (hm : c ≤ maxLen) (hr : Rd w 2 A n c (es.flatMap Ent.cells)) (ge : ∀ y ∈ es, y.good) (hl3 : zs.length = m) (hm3 : c3 ≤ maxLen) (hr3 : Rd w 1 A3 m c3 (zs.map (Value.int .i64))) (gz : ∀ y ∈ zs, igood y)
    (hD : DebG w) (hP : PowG w) :
    Calls Tryd.prog 6 #[.int .i64 key, .slice A n c, .slice A3 m c3] w fun e w' => e = .returned (.bool true) ∧ Ext w w' := by
  by_cases hk : keyI key = true
  · exact walk_yes key A n c es A3 m c3 zs w hm hr hm3 hr3 hD hP hk
  · have hkf : keyI key = false := by
      cases h : keyI key with
      | false => rfl
      | true => exact absurd h hk
    have hkn := keyI_false hkf
    have h' : key < 1 ∨ (1 ≤ key ∧ 1000000 < key) := by omega
    obtain ⟨hE, hN, hG0⟩ := errR_rules
    have hfw := field_want
    have HNW := Lib.hid fun k W => MNew_any k W
    have HKF := Lib.hid hkf
    clear hk hkf hkn gk hl hm hr ge hl3 hm3 hr3 gz hD hP
    rcases h' with h | ⟨h, h2⟩
    all_goals
      go_enter Tryd.func6, Tryd.ntmps6
      go_wp2_with fail
      refine (HNW.out 7 _).mono ?_
      rintro _ w1 hnew
      rcases hnew with ⟨h1, _⟩ | ⟨_, rfl, hmi, hb1⟩
      · exact absurd h1 (by decide)
      rw [errR_0]
      have HMI := Lib.hid hmi
      have E1 := Lib.hid hb1
      clear hmi hb1
      go_wp2_with fail
      refine (MWant_any _ _ _ (Mi.new 7) _ HMI.out).mono ?_
      rintro _ w2 ⟨rfl, hb2⟩
      rw [show (Mi.new 7).want = ⟨1, 0, 0⟩ from if_pos rfl]
      simp only [Wt.val]
      have HE2 := Lib.hid hb2
      clear hb2
      go_wp2_with fail
      refine (MSize_any _ _ _ (Mi.new 7) _ (HMI.out.ext HE2.out)).mono ?_
      rintro _ _ ⟨rfl, rfl⟩
      rw [show (((Mi.new 7).own.length : Nat) : Int) = 0 from rfl]
      go_wp2_with fail
      refine (HNW.out key _).mono ?_
      rintro _ w3 hnew
      rcases hnew with ⟨_, rfl, hb3⟩ | ⟨h1, _⟩
      case inr => rw [HKF.out] at h1; cases h1
      rw [errR_ne (show (1 : Int) ≠ 0 by decide)]
      simp only [errV]
      have E3 := Lib.hid ((E1.out.trans HE2.out).trans hb3)
      clear hb3
      go_wp2_with fail
      go_ret
      exact ⟨rfl, E3.out⟩
end Go.Proofs.YtdpfebokbikgfaaDoor.mirrorComes
