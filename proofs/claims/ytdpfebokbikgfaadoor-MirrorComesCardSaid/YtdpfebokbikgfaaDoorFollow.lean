/- wittop.follow: a mirror hears all of a log. -/
import Derived.Test.YtdpfebokbikgfaaDoorMir5
import Derived.Test.YtdpfebokbikgfaaDoorMirQ
namespace Go.Proofs.YtdpfebokbikgfaaDoor
open Go.RowKit Go.WideShapes
set_option linter.unusedVariables false
attribute [local go_sem ↓] Go.wp_at_zero Go.wp_at_succ

/-- a mirror that heard so many of a log of n -/
def fol (key : Int) (es : List Ent) (h : Hd) (n a : Nat) : Mi := if a < n then pg key es 0 hd00 h a else st key es n h
theorem fol_lt {key : Int} {es : List Ent} {h : Hd} {n a : Nat} (k : a < n) : fol key es h n a = pg key es 0 hd00 h a := if_pos k
theorem fol_ge {key : Int} {es : List Ent} {h : Hd} {n a : Nat} (k : ¬ a < n) : fol key es h n a = st key es n h := if_neg k
/-- a part of a slice of entries -/
theorem Rd.partE {w : World} {ad : Addr} {n c a b : Nat} {es : List Ent} (h : Rd w 2 (some ad) n c (es.flatMap Ent.cells)) (hab : a ≤ b) (hb : b ≤ n) : Rd w 2 (some (ad.add (a * 2))) (b - a) (c - a) (((es.take b).drop a).flatMap Ent.cells) := by
  have hx := h.lenE
  have hc := h.2.1
  refine ⟨?_, by omega, fun hn => ?_⟩
  · rw [flat_len Ent.cells 2 (fun _ => rfl), List.length_drop, List.length_take, Nat.min_eq_left (by omega)]
  · obtain ⟨ad', e, hl, hcell⟩ := h.2.2 (by omega)
    injection e with e
    subst e
    refine ⟨_, rfl, by rw [blk_add]; exact hl, fun j u hu => ?_⟩
    rw [add_add']
    refine hcell _ u ?_
    obtain ⟨i, r, y, hi, hr, rfl, hy, hru⟩ := flat_get Ent.cells 2 (fun _ => rfl) _ _ _ hu
    have h1 : es[a + i]? = some y := by
      rw [List.getElem?_drop, List.getElem?_take] at hy
      split at hy
      · exact hy
      · cases hy
    have := flat_nth (f := Ent.cells) (k := 2) (fun _ => rfl) es (a + i) y r h1 hr
    rw [hru] at this
    rw [← this]
    congr 1
    rw [Nat.add_mul]; omega

theorem field_want (a b c : Int) (W : World) : (Instr.field 55 (.agg #[.int .i64 a, .int .i64 b, .int .i64 c]) 0).run Tryd.prog W = .ok (.int .i64 a) W := by kernel_rfl
set_option maxRecDepth 100000 in
set_option maxHeartbeats 4000000 in
theorem follow_any (P : Nat → Prop) (mb : Nat) (key : Int) (es : List Ent) (h : Hd) (ad : Addr) (n c : Nat) (w0 w : World) (hM : MM 83 w P mb (st key es 0 hd00)) (h0 : Ext w0 w) (hD : DebG w0) (hPow : PowG w0)
    (hP0 : ∀ g, P g → w0.heap.size ≤ g) (hPn : ∀ g, w.heap.size ≤ g → P g) (hr : Rd w 2 (some ad) n c (es.flatMap Ent.cells)) (hA : ¬ P ad.block) (hm : c ≤ maxLen) (hn1 : 1 ≤ n) (hk : entsOk es) (hv : verK h key = 0) (hs : h.size = (n : Int)) (hro : h.root = ofL (es.map Ent.leaf)) :
    Calls Tryd.prog 12 #[.pointer (some ⟨mb, 0, none⟩), .slice (some ad) n c, h.val] w fun e w' => e = .returned (.bool true) ∧ MM 83 w' P mb (st key es n h) ∧ Chg w w' P := by
  obtain ⟨hE, hN, hG0⟩ := errR_rules
  have hfw := field_want
  have hx := hr.lenE
  have hn200 : n ≤ 200 := by have := hk.1; omega
  have hnc := hr.2.1
  have htk : es.take n = es := List.take_of_length_le (by omega)
  have hk' : entsOk (es.take n) := by rw [htk]; exact hk
  have hro' : h.root = ofL ((es.take n).map Ent.leaf) := by rw [htk]; exact hro
  have HW : Hid (∀ W, Chg w W P → Ext w0 W) := Lib.hid fun W k => k.extW h0 fun g hg hp => by have := hP0 g hp; omega
  have HH0 : Hid (∀ W, Chg w W P → MM 83 W P mb (st key es 0 hd00) → Calls Tryd.prog 19 #[.pointer (some ⟨mb, 0, none⟩), .agg #[.int .i64 1, .int .i64 h.size, .int .i64 h.root, .int .i64 h.time, .int .i64 h.sign, .slice none 0 0, .slice none 0 0]] W fun e w' => e = .returned .nilIface ∧ MM 83 w' P mb (pg key es 0 hd00 h 0) ∧ Chg W w' P) := Lib.hid fun W k hW => by
    have h1 := Hear_any P mb (st key es 0 hd00) ⟨1, h, [], []⟩ none 0 0 none 0 0 W hW (fun g hg => hPn g (by have := k.size; omega)) (hD.ext (HW.out W k)) (hPow.ext (HW.out W k)) (Rd.nil _ _ _ _) (Nat.zero_le _) (Rd.nil _ _ _ _) (Nat.zero_le _)
    rw [st_hear (Nat.zero_le _) hv (by rw [hs]; omega)] at h1
    exact h1
  have HHS : Hid (∀ W a b, Chg w W P → a < n → b = min n (a + 16) → MM 83 W P mb (pg key es 0 hd00 h a) → Calls Tryd.prog 19 #[.pointer (some ⟨mb, 0, none⟩), .agg #[.int .i64 2, .int .i64 0, .int .i64 0, .int .i64 0, .int .i64 0, .slice (some (ad.add (a * 2))) (b - a) (c - a), .slice none 0 0]] W fun e w' => e = .returned .nilIface ∧ MM 83 w' P mb (fol key es h n (a + 16)) ∧ Chg W w' P) := Lib.hid fun W a b k ha hb hW => by
    have hrW := (hr.chg k fun _ ad' e => by injection e with e; rw [← e]; exact hA).partE (a := a) (b := b) (by omega) (by omega)
    have h1 := Hear_any P mb (pg key es 0 hd00 h a) ⟨2, hd00, (es.take b).drop a, []⟩ (some (ad.add (a * 2))) (b - a) (c - a) none 0 0 W hW (fun g hg => hPn g (by have := k.size; omega)) (hD.ext (HW.out W k)) (hPow.ext (HW.out W k)) hrW (by omega) (Rd.nil _ _ _ _) (Nat.zero_le _)
    rw [pg_hear (Nat.zero_le _) ha (by omega) hs hk' hro' (by omega)] at h1
    have e2 : (if 0 = 0 ∧ b = n then st key es n h else pg key es 0 hd00 h b) = fol key es h n (a + 16) := by
      by_cases h2 : a + 16 < n
      · rw [fol_lt h2, if_neg (by omega)]
        congr 1
        omega
      · rw [fol_ge h2, if_pos ⟨rfl, by omega⟩]
    rw [e2] at h1
    exact h1
  have HWA : Hid (∀ a, a < n → (pg key es 0 hd00 h a).want = ⟨2, (a : Int), ((min n (a + 16) : Nat) : Int)⟩) := Lib.hid fun a ha => pg_want (Nat.zero_le _) ha (by omega) hs
  have HWS : Hid ((st key es n h).want = ⟨1, 0, 0⟩) := Lib.hid (if_pos rfl)
  have HSZ : Hid ((st key es n h).own.length = n) := Lib.hid (by show (es.take n).length = n; rw [List.length_take]; omega)
  have HM := Lib.hid hM
  have hcs : c ≤ 9223372036854775807 := by unfold maxLen at hm; omega
  clear hk hv hs hro htk hk' hro' hx hD hPow hP0 hPn hr hA hm h0 hM
  obtain ⟨a0, a1, a2, a3⟩ := h
  simp only [Hd.val] at *
  have e0 : Ext w (w.alloc (.cells #[.int .i64 a0, .int .i64 a1, .int .i64 a2, .int .i64 a3] 31)) := (Ext.refl _).alloc _
  have B0 := Bk.at_ w 31 #[.int .i64 a0, .int .i64 a1, .int .i64 a2, .int .i64 a3] w.heap.size rfl
  go_enter Tryd.func12, Tryd.ntmps12
  go_upto_region 1 with (fail)
  generalize w.alloc (.cells #[.int .i64 a0, .int .i64 a1, .int .i64 a2, .int .i64 a3] 31) = W0 at *
  generalize w.heap.size = g0 at *
  have y0 := B0.cell 0
  have y1 := B0.cell 1
  have y2 := B0.cell 2
  have y3 := B0.cell 3
  have HE0 := Lib.hid (e0.chg P)
  have HM0 := Lib.hid (HM.out.ext e0)
  clear e0 B0
  go_wp2_with fail
  refine (HH0.out _ HE0.out HM0.out).mono ?_
  rintro _ w1 ⟨rfl, hm1, hg1⟩
  have HM1 := Lib.hid hm1
  have HG1 := Lib.hid (HE0.out.trans hg1 fun _ _ h => h)
  clear y0 y1 y2 y3 hm1 hg1 HH0 HM0 HE0 HM
  go_wp2_with fail
  go_loopw [7] (fun x wr => ∃ k a : Nat, x = .int .i64 k ∧ k ≤ 13 ∧ Chg w wr P ∧ Hid (a = 16 * k) ∧ Hid (MM 83 wr P mb (fol key es ⟨a0, a1, a2, a3⟩ n a))) (fun x _ => 30 - (intOf x).toNat)
  case atStart => exact ⟨0, 0, rfl, Nat.zero_le _, HG1.out, Lib.hid rfl, by rw [fol_lt (by omega)]; exact HM1⟩
  case round =>
    obtain ⟨k, a, rfl, hk13, hbw, HA, HMr⟩ := hrel
    have hk30 : (k : Int) < 30 := by omega
    have HBW := Lib.hid hbw
    by_cases ha : a < n
    · have hm2 := HMr.out
      rw [fol_lt ha] at hm2
      have HM2 := Lib.hid hm2
      have HWT : Hid (∀ W, Ext wr W → Calls Tryd.prog 20 #[.pointer (some ⟨mb, 0, none⟩)] W fun e w' => e = .returned (.agg #[.int .i64 2, .int .i64 a, .int .i64 ((min n (a + 16) : Nat) : Int)]) ∧ Ext W w') := Lib.hid fun W e => by
        have := (HM2.out.ext e).want
        rw [HWA.out a ha] at this
        exact this
      obtain ⟨b, hb⟩ : ∃ b, min n (a + 16) = b := ⟨_, rfl⟩
      rw [hb] at HWT
      have HB := Lib.hid hb.symm
      have hbn : b ≤ n := by omega
      have hab : a ≤ b := by omega
      have hka : k ≤ 12 := by have := HA.out; omega
      clear hm2 hb hbw
      go_wp2_with fail
      refine (HWT.out _ (Ext.refl _)).mono ?_
      rintro _ w2 ⟨rfl, hb2⟩
      have HE2 := Lib.hid hb2
      clear hb2
      go_wp2_with fail
      refine (HWT.out _ HE2.out).mono ?_
      rintro _ w3 ⟨rfl, hb3⟩
      have B3 := Bk.at_ w3 55 #[.int .i64 2, .int .i64 a, .int .i64 b] w3.heap.size rfl
      have e3 : Ext wr (w3.alloc (.cells #[.int .i64 2, .int .i64 a, .int .i64 b] 55)) := (HE2.out.trans hb3).alloc _
      go_upto_region 7 with (fail)
      generalize w3.alloc (.cells #[.int .i64 2, .int .i64 a, .int .i64 b] 55) = W3 at *
      generalize w3.heap.size = g3 at *
      have z1 := B3.cell 1
      have z2 := B3.cell 2
      have HE3 := Lib.hid e3
      clear hb3 e3 HE2 B3 HWT
      have n1 : ¬ ((a : Int) < 0) := by omega
      have n2 : ((b : Int) < (a : Int)) = False := eq_false (by omega)
      have n3 : ((n : Int) < (b : Int)) = False := eq_false (by omega)
      go_wp2_with fail
      have HC3 := Lib.hid (HBW.out.trans (HE3.out.chg P) fun _ _ h => h)
      refine (HHS.out W3 a b HC3.out ha HB.out (HM2.out.ext HE3.out)).mono ?_
      rintro _ w4 ⟨rfl, hm4, hg4⟩
      have HM4 := Lib.hid hm4
      have HG4 := Lib.hid (HC3.out.trans hg4 fun _ _ h => h)
      have HA2 : Hid (a + 16 = 16 * (k + 1)) := Lib.hid (by have := HA.out; omega)
      clear hm4 hg4 z1 z2 n1 n2 n3
      go_wp2_with fail
      go_roundw
      case rel => exact ⟨k + 1, a + 16, by go_num, by omega, HG4.out, HA2, HM4⟩
      case measure => simp [intOf]; omega
    · have hm2 := HMr.out
      rw [fol_ge ha] at hm2
      have HM2 := Lib.hid hm2
      have HWT : Hid (∀ W, Ext wr W → Calls Tryd.prog 20 #[.pointer (some ⟨mb, 0, none⟩)] W fun e w' => e = .returned (.agg #[.int .i64 1, .int .i64 0, .int .i64 0]) ∧ Ext W w') := Lib.hid fun W e => by
        have := (HM2.out.ext e).want
        rw [HWS.out] at this
        exact this
      have HST : Hid (∀ W, Ext wr W → Calls Tryd.prog 21 #[.pointer (some ⟨mb, 0, none⟩)] W fun e w' => e = .returned (.int .i64 n) ∧ W = w') := Lib.hid fun W e => by
        have := (HM2.out.ext e).sizeC
        rw [HSZ.out] at this
        exact this
      clear hm2 hbw
      go_wp2_with fail
      refine (HWT.out _ (Ext.refl _)).mono ?_
      rintro _ w2 ⟨rfl, hb2⟩
      have HE2 := Lib.hid hb2
      clear hb2
      go_wp2_with fail
      refine (HST.out _ HE2.out).mono ?_
      rintro _ _ ⟨rfl, rfl⟩
      go_wp2_with fail
      refine (HWT.out _ HE2.out).mono ?_
      rintro _ w3 ⟨rfl, hb3⟩
      have HE3 := Lib.hid (HE2.out.trans hb3)
      clear hb3
      go_wp2_with fail
      go_ret
      exact ⟨rfl, HM2.out.ext HE3.out, HBW.out.trans (HE3.out.chg P) fun _ _ h => h⟩
/-- a mirror of none hears a head -/
theorem fol_head (P : Nat → Prop) (mb : Nat) (key : Int) (es : List Ent) (h : Hd) (n : Nat) (w0 W : World) (hE : Ext w0 W) (hD : DebG w0) (hPow : PowG w0) (hPn : ∀ g, W.heap.size ≤ g → P g) (hM : MM 83 W P mb (st key es 0 hd00)) (hn1 : 1 ≤ n) (hv : verK h key = 0) (hs : h.size = (n : Int)) :
    Calls Tryd.prog 19 #[.pointer (some ⟨mb, 0, none⟩), .agg #[.int .i64 1, .int .i64 h.size, .int .i64 h.root, .int .i64 h.time, .int .i64 h.sign, .slice none 0 0, .slice none 0 0]] W fun e w' => e = .returned .nilIface ∧ MM 83 w' P mb (pg key es 0 hd00 h 0) ∧ Chg W w' P := by
  have h1 := Hear_any P mb (st key es 0 hd00) ⟨1, h, [], []⟩ none 0 0 none 0 0 W hM hPn (hD.ext hE) (hPow.ext hE) (Rd.nil _ _ _ _) (Nat.zero_le _) (Rd.nil _ _ _ _) (Nat.zero_le _)
  rw [st_hear (Nat.zero_le _) hv (by rw [hs]; omega)] at h1
  exact h1
/-- and a page -/
theorem fol_some (P : Nat → Prop) (mb : Nat) (key : Int) (es : List Ent) (h : Hd) (ad : Addr) (n c a b : Nat) (w0 W : World) (hE : Ext w0 W) (hD : DebG w0) (hPow : PowG w0) (hPn : ∀ g, W.heap.size ≤ g → P g) (hM : MM 83 W P mb (pg key es 0 hd00 h a)) (ha : a < n) (hb : b = min n (a + 16))
    (hr : Rd W 2 (some ad) n c (es.flatMap Ent.cells)) (hm : c ≤ maxLen) (hk : entsOk es) (hs : h.size = (n : Int)) (hro : h.root = ofL (es.map Ent.leaf)) :
    Calls Tryd.prog 19 #[.pointer (some ⟨mb, 0, none⟩), .agg #[.int .i64 2, .int .i64 0, .int .i64 0, .int .i64 0, .int .i64 0, .slice (some (ad.add (a * 2))) (b - a) (c - a), .slice none 0 0]] W fun e w' => e = .returned .nilIface ∧ MM 83 w' P mb (fol key es h n b) ∧ Chg W w' P := by
  have hx := hr.lenE
  have htk : es.take n = es := List.take_of_length_le (by omega)
  have hnc := hr.2.1
  have hrW := hr.partE (a := a) (b := b) (by omega) (by omega)
  have h1 := Hear_any P mb (pg key es 0 hd00 h a) ⟨2, hd00, (es.take b).drop a, []⟩ (some (ad.add (a * 2))) (b - a) (c - a) none 0 0 W hM hPn (hD.ext hE) (hPow.ext hE) hrW (by omega) (Rd.nil _ _ _ _) (Nat.zero_le _)
  rw [pg_hear (Nat.zero_le _) ha (by omega) hs (by rw [htk]; exact hk) (by rw [htk]; exact hro) (by omega)] at h1
  have e2 : (if 0 = 0 ∧ b = n then st key es n h else pg key es 0 hd00 h b) = fol key es h n b := by
    by_cases h2 : b < n
    · rw [fol_lt h2, if_neg (by omega)]
    · rw [fol_ge h2, if_pos ⟨rfl, by omega⟩]
  rw [e2] at h1
  exact h1
/-- a head that tells nothing new -/
theorem st_same {key : Int} {es : List Ent} {o : Nat} {hd h : Hd} {l : List Ent} {ps : List Int} (ho : o ≤ es.length) (hk : entsOk (es.take o)) (hv : verK h key = 0) (hs : h.size = (o : Int)) (hr : h.root = ofL ((es.take o).map Ent.leaf)) (ht : h.time = 0) (hds : hd.size = (o : Int)) (hdt : 0 ≤ hd.time) :
    (st key es o hd).hear ⟨1, h, l, ps⟩ = (st key es o hd, 0) := by
  rw [hear_head rfl]
  have hlo : (st key es o hd).own.length = o := by show (es.take o).length = o; rw [List.length_take]; omega
  unfold Mi.hearH
  rw [hlo, if_neg (show ¬ verK h (st key es o hd).key ≠ 0 from not_not_intro hv), if_neg, if_neg (by omega), if_neg]
  · unfold betB
    show ¬ (decide (hd.size < h.size) || (decide (h.size = hd.size) && decide (hd.time < h.time))) = true
    have h1 : ¬ hd.size < h.size := by omega
    have h2 : ¬ hd.time < h.time := by omega
    simp [h1, h2]
  · rintro (h1 | ⟨_, h1⟩)
    · omega
    · exact h1 (by show h.root = rootE (es.take o); rw [rootE_ok hk, hr])
end Go.Proofs.YtdpfebokbikgfaaDoor
