/- PrunePlays: the walk. -/
import Derived.Test.YtmknpehjncpekaaDoorPruneS
import Derived.Test.YtmknpehjncpekaaDoorR1
import Derived.Test.YtmknpehjncpekaaDoorR3
import Derived.Test.YtmknpehjncpekaaDoorRHalf
import Derived.Test.YtmknpehjncpekaaDoorOpenL
import Derived.Test.YtmknpehjncpekaaDoorError
import Derived.Test.YtmknpehjncpekaaDoorQuietT
import Derived.Deep.DeepCutAuto
import Derived.Deep.CutRange
import Derived.Deep.CutBlock
import Derived.BigQuiet
namespace Go.Proofs.YtmknpehjncpekaaDoor.prunePlays
open Go.RowKit Go.WideShapes
set_option linter.unusedVariables false
attribute [local go_sem ↓] Go.wp_at_zero Go.wp_at_succ

theorem getRow' {w : World} {A : Option Addr} {n c : Nat} {rs : List (RowG Int)} (h : Rd w 1 A n c (rs.flatMap RowG.cells)) {j : Nat} {r : RowG Int} (hr : rs[j]? = some r) : ∃ ad, A = some ad ∧ ad.block < w.heap.size ∧ w.cell? (ad.add j) = some (.slice r.A r.n r.c) := by
  rw [flat_rows] at h
  exact h.at_ (j := j) (u := .slice r.A r.n r.c) (by rw [List.getElem?_map, hr]; rfl)
theorem info_intS : (Tryd.prog.info? 3).map (fun i => (i.zero, i.size, i.bytes)) = some (some (.int .i64 0), 1, 8) := by kernel_rfl
theorem info_rowS : (Tryd.prog.info? 22).map (fun i => (i.zero, i.size, i.bytes)) = some (some (.slice none 0 0), 1, 24) := by kernel_rfl
theorem make_ints (n : Nat) (h : n ≤ 200) (W : World) : (Instr.makeSlice 22 (.int .i64 (n : Int)) (.int .i64 (n : Int))).run Tryd.prog W = .ok (.slice (some ⟨W.heap.size, 0, none⟩) n n) (W.alloc (.cells (rowC (fun _ => .int .i64 0) n) 3)) := by
  obtain ⟨i0, hi0, hz0, hz1, hz2⟩ := info_parts info_intS
  have := run_makeSlice (P := Tryd.prog) W 22 3 i0 (.int .i64 0) Tryd.underlying22 hi0 hz0 .i64 .i64 (n : Int) (n : Int) (by omega) (by omega) (by rw [hz1]; omega) (by rw [hz2]; omega) (by omega)
  rw [hz1, Int.toNat_natCast, made_row _ _ rfl] at this
  exact this
theorem make_rowsI (n : Nat) (h : n ≤ 200) (W : World) : (Instr.makeSlice 23 (.int .i64 (n : Int)) (.int .i64 (n : Int))).run Tryd.prog W = .ok (.slice (some ⟨W.heap.size, 0, none⟩) n n) (W.alloc (.cells (rowC (fun _ => .slice none 0 0) n) 22)) := by
  obtain ⟨i0, hi0, hz0, hz1, hz2⟩ := info_parts info_rowS
  have := run_makeSlice (P := Tryd.prog) W 23 22 i0 (.slice none 0 0) Tryd.underlying23 hi0 hz0 .i64 .i64 (n : Int) (n : Int) (by omega) (by omega) (by rw [hz1]; omega) (by rw [hz2]; omega) (by omega)
  rw [hz1, Int.toNat_natCast, made_row _ _ rfl] at this
  exact this
theorem wp_open_block {P : Program} {cd : Code} {b : Nat} {K : Act → World → Prop} {Q : Exit → Act → World → Prop} {a : Act} {w : World} (h : cd.wp P (Exit.then K (Exit.inBlock b (Exit.then K Q))) a w) : cd.wp P (Exit.inBlock b (Exit.then K Q)) a w :=
  Code.wp_mono (fun e a w h => by cases e <;> exact h) h
/-- what holds at each step -/
structure PI (w0 w : World) (rb tb mb kb qb n N cnt : Nat) (root : Int) (K : Kn) (pv : Nat → Value) : Prop where
  ext : Ext w0 w
  tr : Tr w rb tb mb (n : Int) root N K cnt
  kn : KnS w kb qb mb n K pv
  rb : rb ≤ w.heap.size
structure PB (w0 : World) (rb tb mb kb qb : Nat) : Prop where
  t0 : w0.heap.size ≤ tb
  m0 : w0.heap.size ≤ mb
  k0 : w0.heap.size ≤ kb
  q0 : w0.heap.size ≤ qb
  t1 : tb < rb
  m1 : mb < rb
  k1 : kb < rb
  q1 : qb < rb
  tm : tb ≠ mb
  tk : tb < kb
  mkb : mb < kb
  kq : kb < qb
theorem PI.extend {w0 w w' : World} {rb tb mb kb qb n N cnt : Nat} {root : Int} {K : Kn} {pv : Nat → Value} (h : PI w0 w rb tb mb kb qb n N cnt root K pv) (e : Ext w w') : PI w0 w' rb tb mb kb qb n N cnt root K pv :=
  ⟨h.ext.trans e, h.tr.ext e, h.kn.ext e, Nat.le_trans h.rb e.size⟩

set_option maxRecDepth 100000 in
set_option maxHeartbeats 4000000 in
theorem walk_bad (A : Option Addr) (n c : Nat) (xs : List Int) (size root : Int) (A2 : Option Addr) (n2 c2 : Nat) (A3 : Option Addr) (n3 c3 : Nat) (w : World) (hg : ErrG w) (hbad : ¬ (1 ≤ size ∧ size ≤ 200 ∧ vld root = true)) :
    Calls Tryd.prog 3 #[.slice A n c, .int .i64 size, .int .i64 root, .slice A2 n2 c2, .slice A3 n3 c3] w fun e w' => e = .returned (.bool true) ∧ Ext w w' := by
  obtain ⟨hE, hN, hG0⟩ := errR_rules
  have HV := Lib.hid fun W => RValid_any root W
  have HNW : Hid (∀ W, Calls Tryd.prog 6 #[.int .i64 size, .int .i64 root] W fun e w' => e = .returned (.tuple #[.pointer none, errR 1]) ∧ Ext W w') := Lib.hid fun W => by
    rw [errR_ne (show (1 : Int) ≠ 0 by decide)]
    exact PrNew_bad size root W hbad
  have HER := Lib.hid fun W (e : Ext w W) => Error_is 1 W (hg.ext e)
  have hh : size < 1 ∨ (¬ size < 1 ∧ 200 < size) ∨ (¬ size < 1 ∧ ¬ 200 < size ∧ vld root = false) := by
    by_cases a : size < 1
    · exact .inl a
    · by_cases b : 200 < size
      · exact .inr (.inl ⟨a, b⟩)
      · cases hv : vld root
        · exact .inr (.inr ⟨a, b, rfl⟩)
        · exact absurd ⟨by omega, by omega, hv⟩ hbad
  clear hbad hg
  obtain ⟨vr, hvr⟩ : ∃ b, vld root = b := ⟨_, rfl⟩
  rw [hvr] at HV hh
  clear hvr
  rcases hh with h | ⟨h, h2⟩ | ⟨h, h2, rfl⟩
  all_goals
    go_enter Tryd.func3, Tryd.ntmps3
    go_wp2_with fail
    refine (HV.out _).mono ?_
    rintro _ _ ⟨rfl, rfl⟩
    go_wp2_with fail
    refine (HNW.out _).mono ?_
    rintro _ w1 ⟨rfl, hb1⟩
    have E1 := Lib.hid hb1
    clear hb1
    go_wp2_with fail
    refine (HER.out _ E1.out).mono ?_
    rintro _ w2 ⟨rfl, hb2⟩
    go_wp2_with fail
    go_ret
    exact ⟨rfl, E1.out.trans hb2⟩

set_option maxRecDepth 100000 in
set_option maxHeartbeats 16000000 in
theorem walk_ok (A : Option Addr) (n c : Nat) (xs : List Int) (sz : Nat) (root : Int) (A2 : Option Addr) (n2 c2 : Nat) (rs : List (RowG Int)) (A3 : Option Addr) (n3 c3 : Nat) (ps : List Int) (w : World)
    (hl : xs.length = n) (hm : c ≤ maxLen) (hr : Rd w 1 A n c (xs.map (Value.int .i64))) (hl2 : rs.length = n2) (hm2 : c2 ≤ maxLen) (hr2 : Rd w 1 A2 n2 c2 (rs.flatMap RowG.cells)) (g2 : ∀ y ∈ rs, RowG.good w 1 icells igood y) (hl3 : ps.length = n3) (hm3 : c3 ≤ maxLen) (hr3 : Rd w 1 A3 n3 c3 (ps.map (Value.int .i64)))
    (hg : ErrG w) (h1 : 1 ≤ sz) (h2 : sz ≤ 200) (hv : vld root = true) :
    Calls Tryd.prog 3 #[.slice A n c, .int .i64 (sz : Int), .int .i64 root, .slice A2 n2 c2, .slice A3 n3 c3] w fun e w' => e = .returned (.bool true) ∧ Ext w w' := by
  obtain ⟨hE, hN, hG0⟩ := errR_rules
  have HV := Lib.hid fun W => RValid_any root W
  have HER := Lib.hid fun k W (e : Ext w W) => Error_is k W (hg.ext e)
  have HNW := Lib.hid fun W => PrNew_ok (sz : Int) root W (by omega) (by omega) hv
  have hmk1 := make_ints sz h2
  have hmk2 := make_rowsI sz h2
  have hnc := hr.2.1
  have hcs : c ≤ 9223372036854775807 := by unfold maxLen at hm; omega
  have hnc2 := hr2.2.1
  have hcs2 : c2 ≤ 9223372036854775807 := by unfold maxLen at hm2; omega
  have hnc3 := hr3.2.1
  have hcs3 : c3 ≤ 9223372036854775807 := by unfold maxLen at hm3; omega
  have HR := Lib.hid hr
  have HR2 := Lib.hid hr2
  have HR3 := Lib.hid hr3
  have HX := Lib.hid hl
  have HX2 := Lib.hid hl2
  have HX3 := Lib.hid hl3
  have HM := Lib.hid hm
  have HM3 := Lib.hid hm3
  have HG2 := Lib.hid g2
  have HVR := Lib.hid hv
  clear hr hr2 hr3 hl hl2 hl3 hm hm2 hm3 g2 hg hv
  rw [HVR.out] at HV
  go_enter Tryd.func3, Tryd.ntmps3
  go_wp2_with fail
  refine (HV.out _).mono ?_
  rintro _ _ ⟨rfl, rfl⟩
  have i1 : ¬ (sz : Int) < 1 := by omega
  have i2 : ¬ 200 < (sz : Int) := by omega
  go_wp2_with fail
  refine (HNW.out _).mono ?_
  rintro _ w1 ⟨⟨tb, mb, rfl, htr, ht0, hm0, ht1, hm1, htm⟩, hb1⟩
  have E1 := Lib.hid hb1
  clear hb1 HV HNW
  rw [← errR_0]
  go_wp2_with fail
  refine (HER.out 0 _ E1.out).mono ?_
  rintro _ w2 ⟨rfl, hb2⟩
  have E2 := Lib.hid (E1.out.trans hb2)
  have hs2 := hb2.size
  have HTR := Lib.hid fun base => (htr base).ext hb2
  clear hb2 E1 htr
  go_upto_region 9 with (fail)
  have B3 := Bk.at_ w2 3 (rowC (fun _ => .int .i64 0) sz) w2.heap.size rfl
  have e3 : Ext w2 (w2.alloc (.cells (rowC (fun _ => .int .i64 0) sz) 3)) := (Ext.refl _).alloc _
  have hs3 : (w2.alloc (.cells (rowC (fun _ => .int .i64 0) sz) 3)).heap.size = w2.heap.size + 1 := by simp
  go_upto_region 10 with (fail)
  generalize w2.alloc (.cells (rowC (fun _ => .int .i64 0) sz) 3) = w3 at *
  obtain ⟨kb, hkb⟩ : ∃ g, w2.heap.size = g := ⟨_, rfl⟩
  rw [hkb] at B3 hs3 hs2
  try rw [hkb]
  have B4 := Bk.at_ w3 22 (rowC (fun _ => .slice none 0 0) sz) w3.heap.size rfl
  have e4 : Ext w3 (w3.alloc (.cells (rowC (fun _ => .slice none 0 0) sz) 22)) := (Ext.refl _).alloc _
  have hs4 : (w3.alloc (.cells (rowC (fun _ => .slice none 0 0) sz) 22)).heap.size = w3.heap.size + 1 := by simp
  go_upto_region 11 with (fail)
  generalize w3.alloc (.cells (rowC (fun _ => .slice none 0 0) sz) 22) = w4 at *
  rw [hs3] at B4 hs4
  obtain ⟨qb, hqb⟩ : ∃ g, kb + 1 = g := ⟨_, rfl⟩
  rw [hqb] at B4 hs4
  try rw [hs3]
  try rw [hqb]
  have hbk : Bk w4 kb 3 (rowC (initF 0) sz) := by rw [init_none]; exact B3.ext e4
  have HE4 := Lib.hid (E2.out.trans (e3.trans e4))
  have hPB : PB w (qb + 1) tb mb kb qb := by
    have := E2.out.size
    exact ⟨ht0, hm0, by omega, by omega, by omega, by omega, by omega, by omega, htm, by omega, by omega, by omega⟩
  have HPB := Lib.hid hPB
  have hs4' : w4.heap.size = qb + 1 := hs4
  have HT4 : Hid (∀ base, Tr w4 base tb mb (sz : Int) root 0 (fun _ => none) 0) := Lib.hid fun base => ((HTR.out base).ext e3).ext e4
  have HBK := Lib.hid hbk
  have HB4 := Lib.hid B4
  clear B3 B4 e3 e4 hbk hPB hs3 hs2 hkb hqb HTR E2 ht0 hm0 ht1 hm1 htm hmk1 hmk2 hs4
  go_wp2_with fail
  go_loopw [18] (fun x wr => ∃ i : Nat, x = .int .i64 i ∧ i ≤ sz ∧ Hid (Ext w wr) ∧ Hid (Bk wr kb 3 (rowC (initF i) sz)) ∧ Hid (Bk wr qb 22 (rowC (fun _ => .slice none 0 0) sz)) ∧ Hid (∀ base, kb < base → Tr wr base tb mb (sz : Int) root 0 (fun _ => none) 0) ∧ Hid (qb + 1 ≤ wr.heap.size)) (fun x _ => sz - (intOf x).toNat)
  case atStart => exact ⟨0, rfl, Nat.zero_le _, HE4, HBK, HB4, Lib.hid fun base _ => HT4.out base, Lib.hid (by omega)⟩
  case round =>
    obtain ⟨i, rfl, hi, HEr, HBr, HQr, HTr, HSr⟩ := hrel
    by_cases hc : i < sz
    · as_aux_lemma =>
      have hcI : (i : Int) < (sz : Int) := by omega
      have k0 : wr.cell? ⟨kb, i, none⟩ = some (initF i i) := (HBr.out.cell i).trans (rowC_get _ hc)
      have f0 := HBr.out.frozen i
      have hk0 : w.heap.size ≤ kb := HPB.out.k0
      have hne : qb ≠ kb := by have := HPB.out.kq; omega
      obtain ⟨u0, hu0⟩ : ∃ u, initF i i = u := ⟨_, rfl⟩
      rw [hu0] at k0
      clear hu0
      go_wp2_with fail
      go_roundw
      case rel => exact ⟨i + 1, by go_num, hc, Lib.hid (HEr.out.setCell (p := ⟨kb, i, none⟩) hk0 _), Lib.hid (by have := HBr.out.set_ i (.int .i64 (-1)); rw [init_set hc] at this; exact this), Lib.hid (HQr.out.kept (gb_set wr kb i _) (fun e => hne (by injection e with e; exact e.symm))), Lib.hid fun base hb => (HTr.out base hb).far (gb_set wr kb i _) (by have := HPB.out.tk; omega) (by have := HPB.out.mkb; omega) hb, Lib.hid (by have := HSr.out; have := (gb_set wr kb i (.int .i64 (-1))).size; omega)⟩
      case measure => simp [intOf]; omega
    as_aux_lemma =>
    obtain rfl : i = sz := by omega
    have HPI : Hid (PI w wr (qb + 1) tb mb kb qb i 0 0 root (fun _ => none) (fun _ => .slice none 0 0)) := Lib.hid ⟨HEr.out, HTr.out _ (by have := HPB.out.kq; omega), KnS.start (by have := HBr.out; rw [init_all] at this; exact this) HQr.out, HSr.out⟩
    obtain ⟨w5, rfl⟩ : ∃ W, W = wr := ⟨_, rfl⟩
    clear HEr HBr HQr HTr HSr HE4 HBK HB4 HT4
    go_wp2_with fail
    go_loopw [11, 15, 19, 20] (fun ev tv mv x wr => ∃ (i' N cnt : Nat) (K : Kn) (pv : Nat → Value), mv = .int .i64 cnt ∧ x = .int .i64 i' ∧ i' ≤ 60 ∧ i' ≤ n2 ∧ N ≤ i' ∧ cnt ≤ i' ∧ Hid (PI w wr (qb + 1) tb mb kb qb i N cnt root K pv)) (fun _ _ _ y _ => 60 - (intOf y).toNat)
    case atStart => exact ⟨0, 0, 0, _, _, rfl, rfl, Nat.zero_le _, Nat.zero_le _, Nat.zero_le _, Nat.zero_le _, HPI⟩
    case round =>
      clear HPI
      obtain ⟨st, N, cnt, K, pv, rfl, rfl, hi60, hin, hN, hcn, HI⟩ := hrel
      obtain ⟨wo, rfl⟩ : ∃ W, W = wr := ⟨_, rfl⟩
      by_cases hc : st < n2 ∧ st < 60
      case neg =>
        have hc' : (¬ (st : Int) < (n2 : Int)) ∨ ((st : Int) < (n2 : Int) ∧ ¬ (st : Int) < 60) := by omega
        clear hc
        rcases hc' with h | ⟨h, h2⟩
        all_goals
          go_wp2_with fail
          go_ret
          exact ⟨rfl, HI.out.ext⟩
      as_aux_lemma =>
      obtain ⟨hc1, hc2⟩ := hc
      have hc1' : (st : Int) < (n2 : Int) := by omega
      have hc2' : (st : Int) < 60 := by omega
      have hgr := List.getElem?_eq_getElem (l := rs) (i := st) (by rw [HX2.out]; exact hc1)
      have hrg := HG2.out _ (List.mem_of_getElem? hgr)
      generalize rs[st]'(by rw [HX2.out]; exact hc1) = rw_ at *
      obtain ⟨ad2, rfl, hb2, cr2⟩ := getRow' HR2.out hgr
      obtain ⟨rA, rn, rc, rx⟩ := rw_
      obtain ⟨hrl, hrm, hrr, hrg2⟩ := hrg
      dsimp only at hrl hrm hrr cr2 hrg2
      have HRR := Lib.hid (show Rd w 1 rA rn rc (rx.map (Value.int .i64)) from by rw [← flat_icells]; exact hrr)
      have HCR := Lib.hid cr2
      have HRL := Lib.hid hrl
      have HRG := Lib.hid hrg2
      have hrn := hrr.2.1
      have hrcs : rc ≤ 9223372036854775807 := by unfold maxLen at hrm; omega
      have hb2' : (ad2.add st).block < w.heap.size := by rw [blk_add]; exact hb2
      clear hgr hrl hrm hrr cr2 hrg2
      have B17 := Bk.at_ wo 31 #[.int .i64 0, .int .i64 0] wo.heap.size rfl
      have e17 : Ext wo (wo.alloc (.cells #[.int .i64 0, .int .i64 0] 31)) := (Ext.refl _).alloc _
      go_upto_region 20 with (fail)
      generalize wo.alloc (.cells #[.int .i64 0, .int .i64 0] 31) = W17 at *
      obtain ⟨g17, hg17⟩ : ∃ g, wo.heap.size = g := ⟨_, rfl⟩
      rw [hg17] at B17
      try rw [hg17]
      have HG17 := Lib.hid hg17
      have HB17 := Lib.hid B17
      have HE17 := Lib.hid e17
      clear hg17 B17 e17
      -- the step's two numbers
      go_upto_block 4 with (fail)
      go_cut [22] (fun _ wc => ∃ a b : Int, igood a ∧ igood b ∧ Hid (Bk wc g17 31 #[.int .i64 a, .int .i64 b]) ∧ Hid (Ext wo wc))
      case first =>
        as_aux_lemma =>
        go_wp2_with fail
        go_loopw [22] (fun x wr => ∃ (j : Nat) (a b : Int), x = .int .i64 j ∧ j ≤ 2 ∧ j ≤ rn ∧ igood a ∧ igood b ∧ Hid (Bk wr g17 31 #[.int .i64 a, .int .i64 b]) ∧ Hid (Ext wo wr)) (fun x _ => 2 - (intOf x).toNat)
        case atStart => exact ⟨0, 0, 0, rfl, by omega, by omega, by unfold igood; decide, by unfold igood; decide, HB17, HE17⟩
        case round =>
          obtain ⟨j, a, b, rfl, hj2, hjn, ga, gb, HBv, HEv⟩ := hrel
          have HGA := Lib.hid ga
          have HGB := Lib.hid gb
          clear ga gb
          have ev := HI.out.ext.trans HEv.out
          have cr2 := (ev.cell hb2').trans HCR.out
          by_cases hq : j < rn ∧ j < 2
          case neg =>
            have hq' : (¬ (j : Int) < (rn : Int)) ∨ ((j : Int) < (rn : Int) ∧ ¬ (j : Int) < 2) := by omega
            clear hq
            rcases hq' with h | ⟨h, h'⟩
            all_goals
              go_wp2_with fail
              go_meet
              exact ⟨a, b, HGA.out, HGB.out, HBv, HEv⟩
          obtain ⟨hq1, hq2⟩ := hq
          have hq1' : (j : Int) < (rn : Int) := by omega
          have hq2' : (j : Int) < 2 := by omega
          have hgz := List.getElem?_eq_getElem (l := rx) (i := j) (by rw [HRL.out]; exact hq1)
          have HGZ := Lib.hid (HRG.out _ (List.mem_of_getElem? hgz))
          generalize rx[j]'(by rw [HRL.out]; exact hq1) = z at *
          obtain ⟨adz, hAz, hbz, cz⟩ := (HRR.out.ext ev).getI hgz
          subst hAz
          have hgj : g17 < wr.heap.size := HBv.out.lt
          have hj01 : j = 0 ∨ j = 1 := by omega
          obtain ⟨u, kj⟩ : ∃ u : Int, wr.cell? ⟨g17, j, none⟩ = some (.int .i64 u) := by
            rcases hj01 with rfl | rfl
            · exact ⟨a, HBv.out.cell 0⟩
            · exact ⟨b, HBv.out.cell 1⟩
          have fj := HBv.out.frozen j
          have HN' : Hid (∃ a' b' : Int, igood a' ∧ igood b' ∧ (#[.int .i64 a, .int .i64 b] : Array Value).setIfInBounds j (.int .i64 z) = #[.int .i64 a', .int .i64 b']) := by
            rcases hj01 with rfl | rfl
            · exact ⟨z, b, HGZ.out, HGB.out, rfl⟩
            · exact ⟨a, z, HGA.out, HGZ.out, rfl⟩
          have hge : wo.heap.size ≤ g17 := by rw [HG17.out]; exact Nat.le_refl _
          clear hgz hj01
          go_wp2_with fail
          go_roundw
          case rel =>
            obtain ⟨a', b', q1, q2, h'⟩ := HN'.out
            exact ⟨j + 1, a', b', by go_num, by omega, by omega, q1, q2, Lib.hid (by have := HBv.out.set_ j (.int .i64 z); rw [h'] at this; exact this), Lib.hid (HEv.out.setCell (p := ⟨g17, j, none⟩) hge _)⟩
          case measure => simp [intOf]; omega
      case rest =>
      as_aux_lemma =>
      obtain ⟨a, b, ga, gb, HB18, HE18⟩ := hcut
      obtain ⟨w18, rfl⟩ : ∃ W, W = wc := ⟨_, rfl⟩
      have HGA := Lib.hid ga
      have HGB := Lib.hid gb
      have HI18 := Lib.hid (HI.out.extend HE18.out)
      have v0 := HB18.out.cell 0
      have v1 := HB18.out.cell 1
      clear ga gb HB17 HE17 HE18 HI HRR HCR HRL HRG HG17
      obtain ⟨ib, hib⟩ : ∃ ib : Bool, ib = decide (0 ≤ b ∧ b < (i : Int)) := ⟨_, rfl⟩
      have HIB := Lib.hid hib
      clear hib
      go_upto_region 25 with (fail)
      go_cut [24] (fun v wc => v = .bool ib ∧ w18 = wc)
      case first =>
        as_aux_lemma =>
        have hb := HIB.out
        by_cases k1 : 0 ≤ b
        · by_cases k2 : b < (i : Int)
          · rw [decide_eq_true ⟨k1, k2⟩] at hb
            subst hb
            go_wp2_with fail
            go_meet
            exact ⟨rfl, rfl⟩
          · rw [decide_eq_false (by omega)] at hb
            subst hb
            go_wp2_with fail
            go_meet
            exact ⟨rfl, rfl⟩
        · rw [decide_eq_false (by omega)] at hb
          subst hb
          go_wp2_with fail
          go_meet
          exact ⟨rfl, rfl⟩
      case rest =>
      as_aux_lemma =>
      obtain ⟨rfl, rfl⟩ := hcut
      go_upto_block 6 with (fail)
      go_cut [11, 15, 19, 25, 26, 27] (fun _ tv mv _ _ _ wc => ∃ (N' cnt' : Nat) (K' : Kn) (pv' : Nat → Value), tv = .bool true ∧ mv = .int .i64 cnt' ∧ N' ≤ N + 1 ∧ cnt' ≤ cnt + 1 ∧ Hid (PI w wc (qb + 1) tb mb kb qb i N' cnt' root K' pv'))
      case first =>
        as_aux_lemma =>
        obtain ⟨tb_, htb⟩ : ∃ x : Bool, x = decide (a = 0 ∨ a = 1 ∨ a = 2) := ⟨_, rfl⟩
        have HTB := Lib.hid htb
        clear htb
        go_upto_if 136 with (fail)
        go_cut [136] (fun v wc => v = .bool tb_ ∧ w18 = wc)
        case first =>
          as_aux_lemma =>
          have hb := HTB.out
          by_cases k0 : a = 0
          · rw [decide_eq_true (.inl k0)] at hb
            subst hb k0
            go_wp2_with fail
            go_meet
            exact ⟨rfl, rfl⟩
          · have z0 : (a == 0) = false := beq_eq_false_iff_ne.2 k0
            by_cases k1 : a = 1
            · rw [decide_eq_true (.inr (.inl k1))] at hb
              subst hb k1
              go_wp2_with fail
              go_meet
              exact ⟨rfl, rfl⟩
            · have z1 : (a == 1) = false := beq_eq_false_iff_ne.2 k1
              by_cases k2 : a = 2
              · rw [decide_eq_true (.inr (.inr k2))] at hb
                subst hb k2
                go_wp2_with fail
                go_meet
                exact ⟨rfl, rfl⟩
              · have z2 : (a == 2) = false := beq_eq_false_iff_ne.2 k2
                rw [decide_eq_false (by omega)] at hb
                subst hb
                clear k0 k1 k2
                go_wp2_with fail
                go_meet
                exact ⟨rfl, rfl⟩
        case rest =>
        as_aux_lemma =>
        obtain ⟨rfl, rfl⟩ := hcut
        clear HTB
        cases tb_
        · -- a leaf is forgotten
          as_aux_lemma =>
          go_upto_if 120 with (fail)
          obtain ⟨ek, hek⟩ : ∃ k, fdK (i : Int) K b = k := ⟨_, rfl⟩
          have HEK := Lib.hid hek
          clear hek
          go_cut [11, 19] (fun ev mv wc => ev = .int .i64 ek ∧ mv = .int .i64 (fgN (i : Int) K b cnt : Nat) ∧ Hid (Ext w wc) ∧ Hid (Tr wc (qb + 1) tb mb (i : Int) root N K cnt) ∧ Hid (KnS wc kb qb mb i (fgKn (i : Int) K b) pv) ∧ Hid (qb + 1 ≤ wc.heap.size))
          case first =>
            as_aux_lemma =>
            by_cases hin_ : 0 ≤ b ∧ b < (i : Int)
            case neg =>
              have hbF := HIB.out
              rw [decide_eq_false hin_] at hbF
              have hk := HEK.out
              rw [fdK_range K hin_] at hk
              have e1 : fgN (i : Int) K b cnt = cnt := if_neg (by rw [fdK_range K hin_]; decide)
              have e2 : fgKn (i : Int) K b = K := if_neg (by rw [fdK_range K hin_]; decide)
              have HE1 := Lib.hid e1
              have HE2 := Lib.hid e2
              subst hbF hk
              clear hin_ e1 e2
              go_wp2_with fail
              go_meet
              exact ⟨rfl, by rw [HE1.out], Lib.hid HI18.out.ext, Lib.hid HI18.out.tr, Lib.hid (by rw [HE2.out]; exact HI18.out.kn), Lib.hid HI18.out.rb⟩
            obtain ⟨hb0, hb1⟩ := hin_
            obtain ⟨p, rfl⟩ := Int.eq_ofNat_of_zero_le hb0
            have hpi : p < i := by omega
            have hbT := HIB.out
            rw [decide_eq_true ⟨hb0, hb1⟩] at hbT
            subst hbT
            have k0 := HI18.out.kn.sum hpi
            have f0 := HI18.out.kn.kn.frozen p
            rcases kv_neg HI18.out.kn hpi with ⟨hkn, hkv⟩ | ⟨s, q, hkn, hkv, hs0⟩
            · have hk := HEK.out
              rw [fdK_none ⟨hb0, hb1⟩ hkn] at hk
              have e1 : fgN (i : Int) K (p : Int) cnt = cnt := if_neg (by rw [fdK_none ⟨hb0, hb1⟩ hkn]; decide)
              have e2 : fgKn (i : Int) K (p : Int) = K := if_neg (by rw [fdK_none ⟨hb0, hb1⟩ hkn]; decide)
              have HE1 := Lib.hid e1
              have HE2 := Lib.hid e2
              rw [hkv] at k0
              subst hk
              clear e1 e2 hkn hkv
              go_wp2_with fail
              go_meet
              exact ⟨rfl, by rw [HE1.out], Lib.hid HI18.out.ext, Lib.hid HI18.out.tr, Lib.hid (by rw [HE2.out]; exact HI18.out.kn), Lib.hid HI18.out.rb⟩
            · have hk := HEK.out
              have h0 := fdK_some ⟨hb0, hb1⟩ hkn
              rw [h0] at hk
              have e1 : fgN (i : Int) K (p : Int) cnt = cnt - 1 := if_pos h0
              have e2 : fgKn (i : Int) K (p : Int) = K.set (p : Int) none := if_pos h0
              have HE1 := Lib.hid e1
              have HE2 := Lib.hid e2
              rw [hkv] at k0
              have hs0' : ¬ s < 0 := by omega
              have hc1 : 1 ≤ cnt := HI18.out.tr.pos (kl_wf hb0 (by omega)) (by rw [hkn]; rfl)
              have HC1 : Hid (((cnt - 1 : Nat) : Int) = (cnt : Int) - 1) := Lib.hid (by omega)
              have hw0 : w.heap.size ≤ kb := HPB.out.k0
              have ht1 : kb ≠ tb := by have := HPB.out.tk; omega
              have ht2 : kb ≠ mb := by have := HPB.out.mkb; omega
              have hkq : kb ≠ qb := by have := HPB.out.kq; omega
              have hk1 : kb < qb + 1 := HPB.out.k1
              subst hk
              clear e1 e2 hkn hkv h0
              go_wp2_with fail
              go_meet
              exact ⟨rfl, by rw [HE1.out, HC1.out], Lib.hid (HI18.out.ext.setCell (p := ⟨kb, p, none⟩) hw0 _), Lib.hid (HI18.out.tr.far (gb_set w18 kb p _) ht1 ht2 hk1), Lib.hid (by rw [HE2.out]; exact HI18.out.kn.forget hpi hkq), Lib.hid (by have := HI18.out.rb; have := (gb_set w18 kb p (.int .i64 (-1))).size; omega)⟩
          case rest =>
          as_aux_lemma =>
          obtain ⟨rfl, rfl, HE20, HT20, HK20, HS20⟩ := hcut
          obtain ⟨w20, rfl⟩ : ∃ W, W = wc := ⟨_, rfl⟩
          have HF := Lib.hid (Forget_any HT20.out b (by omega) HGB.out)
          rw [HEK.out] at HF
          clear v0 v1 HB18 HI18
          go_wp2_with fail
          refine HF.out.mono ?_
          rintro _ w21 ⟨rfl, ht21, hg21⟩
          have hE21 : Ext w w21 := gb_none (gb_row (HE20.out.gb none) hg21 (fun g hg => by injection hg with hg; have := HPB.out.m0; omega))
          have hK21 := HK20.out.kept hg21 (by have := HPB.out.mkb; omega) (by have := HPB.out.mkb; have := HPB.out.kq; omega)
          have hS21 : qb + 1 ≤ w21.heap.size := Nat.le_trans HS20.out hg21.size
          have HE21 := Lib.hid hE21
          have HPI21 : Hid (PI w w21 (qb + 1) tb mb kb qb i N (fgN (i : Int) K b cnt) root (fgKn (i : Int) K b) pv) := Lib.hid ⟨hE21, ht21, hK21, hS21⟩
          have hcn' : fgN (i : Int) K b cnt ≤ cnt + 1 := by unfold fgN; split <;> omega
          clear ht21 hg21 hE21 hK21 hS21 HE20 HT20 HK20 HS20 HF
          go_wp2_with fail
          refine (HER.out ek _ HE21.out).mono ?_
          rintro _ w22 ⟨rfl, hb22⟩
          go_wp2_with fail
          go_meet
          exact ⟨N, _, _, pv, rfl, rfl, by omega, hcn', Lib.hid (HPI21.out.extend hb22)⟩
        · -- a leaf is learned
          as_aux_lemma =>
          obtain ⟨lk, hlk⟩ : ∃ k : Int, (if 200 < xs.length then 4 else if allV xs = true then 0 else 1 : Int) = k := ⟨_, rfl⟩
          have HLK : Hid (lk = 0 → leafsOk xs) := Lib.hid (by
            rw [← hlk]
            intro h
            by_cases q1 : 200 < xs.length
            · rw [if_pos q1] at h; cases h
            · rw [if_neg q1] at h
              by_cases q2 : allV xs = true
              · exact ⟨by omega, q2⟩
              · rw [if_neg q2] at h; cases h)
          have HRL := Lib.hid fun W (e : Ext w W) => RLeafs_any A n c xs W (HR.out.ext e) HM.out
          rw [hlk] at HRL
          clear hlk
          obtain ⟨lb, hlb⟩ : ∃ x : Bool, x = decide (0 ≤ b ∧ b < (i : Int) ∧ b < (n : Int) ∧ (i : Int) ≤ (n : Int) ∧ lk = 0 ∧ 0 < a) := ⟨_, rfl⟩
          have HLB := Lib.hid hlb
          have HEW := Lib.hid HI18.out.ext
          clear hlb
          go_upto_region 40 with (fail)
          go_cut [163] (fun v wc => v = .bool lb ∧ w18 = wc)
          case first =>
            as_aux_lemma =>
            have hbF := HIB.out
            have hl := HLB.out
            by_cases hin_ : 0 ≤ b ∧ b < (i : Int)
            case neg =>
              rw [decide_eq_false hin_] at hbF
              rw [decide_eq_false (fun h => hin_ ⟨h.1, h.2.1⟩)] at hl
              subst hbF hl
              clear hin_
              go_wp2_with fail
              go_meet
              exact ⟨rfl, rfl⟩
            rw [decide_eq_true hin_] at hbF
            subst hbF
            by_cases k2 : b < (n : Int)
            case neg =>
              rw [decide_eq_false (fun h => k2 h.2.2.1)] at hl
              subst hl
              clear hin_
              go_wp2_with fail
              go_meet
              exact ⟨rfl, rfl⟩
            by_cases k3 : (i : Int) ≤ (n : Int)
            case neg =>
              rw [decide_eq_false (fun h => k3 h.2.2.2.1)] at hl
              subst hl
              clear hin_
              go_wp2_with fail
              go_meet
              exact ⟨rfl, rfl⟩
            by_cases k4 : lk = 0
            case neg =>
              have k4' : (lk == 0) = false := beq_eq_false_iff_ne.2 k4
              rw [decide_eq_false (fun h => k4 h.2.2.2.2.1)] at hl
              subst hl
              clear hin_ k4
              go_wp2_with fail
              refine (HRL.out _ HEW.out).mono ?_
              rintro _ _ ⟨rfl, rfl⟩
              go_wp2_with fail
              go_meet
              exact ⟨rfl, rfl⟩
            by_cases k5 : 0 < a
            case neg =>
              rw [decide_eq_false (fun h => k5 h.2.2.2.2.2)] at hl
              subst hl k4
              clear hin_
              go_wp2_with fail
              refine (HRL.out _ HEW.out).mono ?_
              rintro _ _ ⟨rfl, rfl⟩
              go_wp2_with fail
              go_meet
              exact ⟨by first | rfl | exact congrArg Value.bool (decide_eq_false (by omega)), rfl⟩
            rw [decide_eq_true ⟨hin_.1, hin_.2, k2, k3, k4, k5⟩] at hl
            subst hl k4
            clear hin_
            go_wp2_with fail
            refine (HRL.out _ HEW.out).mono ?_
            rintro _ _ ⟨rfl, rfl⟩
            go_wp2_with fail
            go_meet
            exact ⟨by first | rfl | exact congrArg Value.bool (decide_eq_true k5), rfl⟩
          case rest =>
          as_aux_lemma =>
          obtain ⟨rfl, rfl⟩ := hcut
          clear v0 v1 HB18 HRL
          go_upto_if 163 with (fail)
          go_cut [25, 26] (fun sv qv wc => ∃ (z : Int) (p : List Int) (A5 : Option Addr) (c5 : Nat), sv = .int .i64 z ∧ qv = .slice A5 p.length c5 ∧ c5 ≤ maxLen ∧ vld z = true ∧ Hid (Ext w18 wc) ∧ Hid (Rd wc 1 A5 p.length c5 (p.map (Value.int .i64))) ∧ Hid (∀ ad, A5 = some ad → 0 < p.length → ad.block ≠ kb ∧ ad.block ≠ qb ∧ ad.block ≠ mb))
          case first =>
            as_aux_lemma =>
            cases lb
            · have hsep : ∀ ad, A3 = some ad → 0 < ps.length → ad.block ≠ kb ∧ ad.block ≠ qb ∧ ad.block ≠ mb := fun ad had hp => by
                have := HR3.out.blk (by have := HX3.out; omega) ad had
                have h1 := HPB.out.k0
                have h2 := HPB.out.q0
                have h3 := HPB.out.m0
                omega
              have HSEP := Lib.hid hsep
              clear hsep
              go_wp2_with fail
              go_meet
              exact ⟨5, ps, A3, c3, rfl, by rw [HX3.out], HM3.out, by decide, Lib.hid (Ext.refl _), Lib.hid (by rw [HX3.out]; exact HR3.out.ext HEW.out), HSEP⟩
            · have hl := HLB.out
              have hl2 := of_decide_eq_true hl.symm
              obtain ⟨q0, q1, q2, q3, q4', q5⟩ := hl2
              have q4 := HLK.out q4'
              obtain ⟨p, rfl⟩ := Int.eq_ofNat_of_zero_le q0
              have hpn : p < n := by omega
              have hin' : i ≤ n := by omega
              have hgz := List.getElem?_eq_getElem (l := xs) (i := p) (by rw [HX.out]; exact hpn)
              obtain ⟨z, hz⟩ : ∃ z, xs[p]'(by rw [HX.out]; exact hpn) = z := ⟨_, rfl⟩
              rw [hz] at hgz
              have HVZ := Lib.hid (allV_get q4.2 hgz)
              obtain ⟨ad, rfl, hadb, cz⟩ := (HR.out.ext HEW.out).getI hgz
              have hic : i ≤ c := by omega
              have HWY := Lib.hid fun W (e : Ext w18 W) => RWay_any i (some ad) i c (xs.take i) p W (Nat.le_refl _) (((HR.out.ext HEW.out).takeI hin').ext e) HM.out (by omega) (by omega) (allV_take q4.2 i) (by omega)
              obtain ⟨wy, hwy⟩ : ∃ q, wayL (xs.take i) p = q := ⟨_, rfl⟩
              rw [hwy] at HWY
              clear hl hz hgz q0 hwy q3 q5 q4' q4
              have hici : (i : Int) ≤ (c : Int) := by omega
              have q2' : (p : Int) < (n : Int) := by omega
              go_wp2_with fail
              refine (HWY.out _ (Ext.refl _)).mono ?_
              rintro _ w19 ⟨⟨v19, rfl, o19⟩, hb19⟩
              obtain ⟨A5, c5, rfl, hc5, R5⟩ := o19.rd
              have hblk := own_addr o19
              have HR5 := Lib.hid R5
              have HBL : Hid (∀ ad', A5 = some ad' → w18.heap.size ≤ ad'.block) := Lib.hid hblk
              have hrb := HI18.out.rb
              clear o19 R5 hblk
              go_wp2_with fail
              go_meet
              exact ⟨z, wy, A5, c5, rfl, rfl, hc5, HVZ.out, Lib.hid hb19, HR5, Lib.hid fun ad' had _ => by
                have h1 := HBL.out ad' had
                have h2 := HPB.out.k1
                have h3 := HPB.out.q1
                have h4 := HPB.out.m1
                omega⟩
          case rest =>
          as_aux_lemma =>
          obtain ⟨z, p, A5, c5, rfl, rfl, hc5, hvz, HE19, HR5, HSEP⟩ := hcut
          obtain ⟨w19, rfl⟩ : ∃ W, W = wc := ⟨_, rfl⟩
          have HI19 := Lib.hid (HI18.out.extend HE19.out)
          have HVZ := Lib.hid hvz
          have HC5 := Lib.hid hc5
          have hlc5 := HR5.out.2.1
          have hc5s : c5 ≤ 9223372036854775807 := by unfold maxLen at hc5; omega
          clear HI18 HE19 HLB HEW hvz hc5
          obtain ⟨av, hav⟩ : ∃ x, allV p = x := ⟨_, rfl⟩
          have HAV := Lib.hid hav
          have HRA := Lib.hid (RAll_any A5 p.length c5 p w19 HR5.out HC5.out)
          rw [hav] at HRA
          clear hav
          go_wp2_with fail
          refine HRA.out.mono ?_
          rintro _ _ ⟨rfl, rfl⟩
          obtain ⟨ek, hek⟩ : ∃ k, learnK (i : Int) root K b z p = k := ⟨_, rfl⟩
          have HEK := Lib.hid hek
          clear hek HRA
          obtain ⟨ob, hob⟩ : ∃ x : Bool, x = decide (¬ (0 ≤ b ∧ b < (i : Int)) ∨ av = false) := ⟨_, rfl⟩
          have HOB := Lib.hid hob
          clear hob
          go_upto_region 45 with (fail)
          go_cut [180] (fun v wc => v = .bool ob ∧ w19 = wc)
          case first =>
            as_aux_lemma =>
            have hbF := HIB.out
            have ho := HOB.out
            by_cases hin_ : 0 ≤ b ∧ b < (i : Int)
            · rw [decide_eq_true hin_] at hbF
              subst hbF
              cases av
              · rw [decide_eq_true (.inr rfl)] at ho
                subst ho
                clear hin_
                go_wp2_with fail
                go_meet
                exact ⟨rfl, rfl⟩
              · rw [decide_eq_false (by simp [hin_])] at ho
                subst ho
                clear hin_
                go_wp2_with fail
                go_meet
                exact ⟨rfl, rfl⟩
            · rw [decide_eq_false hin_] at hbF
              rw [decide_eq_true (.inl hin_)] at ho
              subst hbF ho
              clear hin_
              go_wp2_with fail
              go_meet
              exact ⟨rfl, rfl⟩
          case rest =>
          as_aux_lemma =>
          obtain ⟨rfl, rfl⟩ := hcut
          go_upto_if 180 with (fail)
          go_cut [11, 19] (fun ev mv wc => ev = .int .i64 ek ∧ mv = .int .i64 (learnN (i : Int) root K b z p cnt : Nat) ∧ Hid (Ext w wc) ∧ Hid (Tr wc (qb + 1) tb mb (i : Int) root N K cnt) ∧ (∃ pv', Hid (KnS wc kb qb mb i (learnKn (i : Int) root K b z p) pv')) ∧ Hid (qb + 1 ≤ wc.heap.size) ∧ Hid (Rd wc 1 A5 p.length c5 (p.map (Value.int .i64))))
          case first =>
            as_aux_lemma =>
            have HSAME : Hid (ek ≠ 0 → learnN (i : Int) root K b z p cnt = cnt ∧ learnKn (i : Int) root K b z p = K) := Lib.hid fun h => by
              rw [← HEK.out] at h
              exact ⟨if_neg h, if_neg h⟩
            have hbF := HIB.out
            have ho := HOB.out
            by_cases hin_ : 0 ≤ b ∧ b < (i : Int)
            case neg =>
              rw [decide_eq_true (.inl hin_)] at ho
              have hk := HEK.out
              rw [learnK_bad (by rw [pcheck_range (fun h => hin_ ⟨h.1, h.2.1⟩)]; decide), pcheck_range (fun h => hin_ ⟨h.1, h.2.1⟩)] at hk
              subst ho hk
              clear hin_ hbF
              obtain ⟨s1, s2⟩ := HSAME.out (by decide)
              have HS1 := Lib.hid s1
              have HS2 := Lib.hid s2
              clear s1 s2
              go_wp2_with fail
              go_meet
              exact ⟨rfl, by rw [HS1.out], Lib.hid HI19.out.ext, Lib.hid HI19.out.tr, ⟨pv, Lib.hid (by rw [HS2.out]; exact HI19.out.kn)⟩, Lib.hid HI19.out.rb, HR5⟩
            obtain ⟨hb0, hb1⟩ := hin_
            have hrange : 0 ≤ b ∧ b < (i : Int) ∧ (i : Int) ≤ 200 := ⟨hb0, hb1, by omega⟩
            cases av
            case false =>
              rw [decide_eq_true (.inr rfl)] at ho
              have hk := HEK.out
              have hpc := pcheck_vld (want := root) (s := z) (p := p) hrange (by rw [HAV.out]; simp)
              rw [learnK_bad (by rw [hpc]; decide), hpc] at hk
              subst ho hk
              clear hbF hpc hrange
              obtain ⟨s1, s2⟩ := HSAME.out (by decide)
              have HS1 := Lib.hid s1
              have HS2 := Lib.hid s2
              clear s1 s2
              go_wp2_with fail
              go_meet
              exact ⟨rfl, by rw [HS1.out], Lib.hid HI19.out.ext, Lib.hid HI19.out.tr, ⟨pv, Lib.hid (by rw [HS2.out]; exact HI19.out.kn)⟩, Lib.hid HI19.out.rb, HR5⟩
            rw [decide_eq_false (by simp [hb0, hb1])] at ho
            rw [decide_eq_true ⟨hb0, hb1⟩] at hbF
            subst ho hbF
            obtain ⟨q, rfl⟩ := Int.eq_ofNat_of_zero_le hb0
            have hqi : q < i := by omega
            have hvall : vld root = true ∧ vld z = true ∧ allV p = true := ⟨HVR.out, HVZ.out, HAV.out⟩
            have HST := Lib.hid (RSteps_any i q i w19 (Nat.le_refl _) hqi (by omega))
            obtain ⟨sn, hsn⟩ : ∃ k, stepsN q i = k := ⟨_, rfl⟩
            have HSN := Lib.hid hsn
            rw [hsn] at HST
            clear hsn
            by_cases hlen : p.length = sn
            case neg =>
              have hk := HEK.out
              have hpc := pcheck_len (want := root) (s := z) (p := p) hrange hvall (by rw [Int.toNat_natCast, Int.toNat_natCast, HSN.out]; exact hlen)
              rw [learnK_bad (by rw [hpc]; decide), hpc] at hk
              subst hk
              have hl' : ((p.length : Int) == (sn : Int)) = false := beq_eq_false_iff_ne.2 (by omega)
              clear hpc hrange hvall hlen
              obtain ⟨s1, s2⟩ := HSAME.out (by decide)
              have HS1 := Lib.hid s1
              have HS2 := Lib.hid s2
              clear s1 s2
              go_wp2_with fail
              refine HST.out.mono ?_
              rintro _ _ ⟨rfl, rfl⟩
              go_wp2_with fail
              go_meet
              exact ⟨rfl, by rw [HS1.out], Lib.hid HI19.out.ext, Lib.hid HI19.out.tr, ⟨pv, Lib.hid (by rw [HS2.out]; exact HI19.out.kn)⟩, Lib.hid HI19.out.rb, HR5⟩
            have HUP := Lib.hid (RUp_any i q i z A5 p.length c5 p w19 (Nat.le_refl _) h1 (by omega) hqi (by rw [HSN.out]; exact hlen) HR5.out HC5.out HVZ.out HAV.out)
            have hl' : ((p.length : Int) == (sn : Int)) = true := beq_iff_eq.2 (by omega)
            have HLN := Lib.hid hlen
            obtain ⟨up, hup⟩ : ∃ k, upL q i z p = k := ⟨_, rfl⟩
            have HUPV := Lib.hid hup
            rw [hup] at HUP
            clear hup hlen
            by_cases hroot : up = root
            case neg =>
              have hk := HEK.out
              have hpc := pcheck_root (want := root) (s := z) (p := p) hrange hvall (by rw [Int.toNat_natCast, Int.toNat_natCast, HSN.out]; exact HLN.out) (by rw [Int.toNat_natCast, Int.toNat_natCast, HUPV.out]; exact hroot)
              rw [learnK_bad (by rw [hpc]; decide), hpc] at hk
              subst hk
              have hr' : (up == root) = false := beq_eq_false_iff_ne.2 hroot
              clear hpc hrange hvall hroot
              obtain ⟨s1, s2⟩ := HSAME.out (by decide)
              have HS1 := Lib.hid s1
              have HS2 := Lib.hid s2
              clear s1 s2
              go_wp2_with fail
              refine HST.out.mono ?_
              rintro _ _ ⟨rfl, rfl⟩
              go_wp2_with fail
              refine HUP.out.mono ?_
              rintro _ w20 ⟨rfl, hb20⟩
              have HI20 := Lib.hid (HI19.out.extend hb20)
              have HR20 := Lib.hid (HR5.out.ext hb20)
              go_wp2_with fail
              go_meet
              exact ⟨rfl, by rw [HS1.out], Lib.hid HI20.out.ext, Lib.hid HI20.out.tr, ⟨pv, Lib.hid (by rw [HS2.out]; exact HI20.out.kn)⟩, Lib.hid HI20.out.rb, HR20⟩
            have hpc : pcheck root (i : Int) (q : Int) z p = 0 := by
              unfold pcheck
              rw [if_neg (not_not_intro hrange), if_neg (not_not_intro hvall), Int.toNat_natCast, Int.toNat_natCast, HSN.out, if_neg (not_not_intro HLN.out), HUPV.out, if_neg (not_not_intro hroot)]
            have HPC := Lib.hid hpc
            have hr' : (up == root) = true := beq_iff_eq.2 hroot
            have hzp : 0 ≤ z := (vld_true HVZ.out).1
            have HL4 : Hid (p.length ≤ 4096) := Lib.hid (by have := stepsN_le i q i (Nat.le_refl _) (by omega); have := HLN.out; have := HSN.out; omega)
            clear hpc hrange hvall hroot HUPV HLN HSN HAV
            go_wp2_with fail
            refine HST.out.mono ?_
            rintro _ _ ⟨rfl, rfl⟩
            go_wp2_with fail
            refine HUP.out.mono ?_
            rintro _ w20 ⟨rfl, hb20⟩
            have HI20 := Lib.hid (HI19.out.extend hb20)
            have HR20 := Lib.hid (HR5.out.ext hb20)
            have k0 := HI20.out.kn.sum hqi
            have f0 := HI20.out.kn.kn.frozen q
            have hkq : kb ≠ qb := by have := HPB.out.kq; omega
            have hw0 : w.heap.size ≤ kb := HPB.out.k0
            have hw1 : w.heap.size ≤ qb := HPB.out.q0
            have ht1 : kb ≠ tb := by have := HPB.out.tk; omega
            have ht2 : kb ≠ mb := by have := HPB.out.mkb; omega
            have ht3 : qb ≠ tb := by have := HPB.out.tk; have := HPB.out.kq; omega
            have ht4 : qb ≠ mb := by have := HPB.out.mkb; have := HPB.out.kq; omega
            have hk1 : kb < qb + 1 := HPB.out.k1
            have hq1 : qb < qb + 1 := HPB.out.q1
            have hbk1 := HI20.out.kn.pr.kept (gb_set w20 kb q (.int .i64 z)) (fun e => hkq (by injection e))
            have r0 : (w20.setCell ⟨kb, q, none⟩ (.int .i64 z)).cell? ⟨qb, q, none⟩ = some (pv q) := (hbk1.cell q).trans (rowC_get _ hqi)
            have f1 := hbk1.frozen q
            have HFIN : Hid (clashB K (q : Int) z = false → Hid (Ext w ((w20.setCell ⟨kb, q, none⟩ (.int .i64 z)).setCell ⟨qb, q, none⟩ (.slice A5 p.length c5))) ∧ Hid (Tr ((w20.setCell ⟨kb, q, none⟩ (.int .i64 z)).setCell ⟨qb, q, none⟩ (.slice A5 p.length c5)) (qb + 1) tb mb (i : Int) root N K cnt) ∧ (∃ pv', Hid (KnS ((w20.setCell ⟨kb, q, none⟩ (.int .i64 z)).setCell ⟨qb, q, none⟩ (.slice A5 p.length c5)) kb qb mb i (learnKn (i : Int) root K (q : Int) z p) pv')) ∧ Hid (qb + 1 ≤ ((w20.setCell ⟨kb, q, none⟩ (.int .i64 z)).setCell ⟨qb, q, none⟩ (.slice A5 p.length c5)).heap.size) ∧ Hid (Rd ((w20.setCell ⟨kb, q, none⟩ (.int .i64 z)).setCell ⟨qb, q, none⟩ (.slice A5 p.length c5)) 1 A5 p.length c5 (p.map (Value.int .i64)))) := Lib.hid fun hcl => by
              have hk0 := learnK_ok (K := K) HPC.out hcl
              have e1 : learnKn (i : Int) root K (q : Int) z p = K.set (q : Int) (some (z, p)) := if_pos hk0
              have g1 := gb_set w20 kb q (.int .i64 z)
              have g2 := gb_set (w20.setCell ⟨kb, q, none⟩ (.int .i64 z)) qb q (.slice A5 p.length c5)
              refine ⟨Lib.hid ((HI20.out.ext.setCell (p := ⟨kb, q, none⟩) hw0 _).setCell (p := ⟨qb, q, none⟩) hw1 _), Lib.hid ((HI20.out.tr.far g1 ht1 ht2 hk1).far g2 ht3 ht4 hq1), ⟨_, Lib.hid (by rw [e1]; exact HI20.out.kn.learn hqi hzp HL4.out HC5.out HR20.out HSEP.out hkq)⟩, Lib.hid ?_, Lib.hid ((HR20.out.kept g1 (fun hn ad had e => (HSEP.out ad had hn).1 (by injection e with e; exact e.symm))).kept g2 (fun hn ad had e => (HSEP.out ad had hn).2.1 (by injection e with e; exact e.symm)))⟩
              have := HI20.out.rb
              have := g1.size
              have := g2.size
              omega
            obtain ⟨pq, hpq⟩ : ∃ v, pv q = v := ⟨_, rfl⟩
            rw [hpq] at r0
            clear hbk1 hpq
            rcases kv_neg HI20.out.kn hqi with ⟨hkn, hkv⟩ | ⟨s, pp, hkn, hkv, hs0⟩
            · have hcl : clashB K (q : Int) z = false := by unfold clashB; rw [hkn]
              have hk := HEK.out
              rw [learnK_ok HPC.out hcl] at hk
              have e1 : learnN (i : Int) root K (q : Int) z p cnt = cnt + 1 := by
                unfold learnN cntL
                rw [if_pos (learnK_ok HPC.out hcl), hkn]
                rfl
              have HE1 := Lib.hid e1
              have HCL := Lib.hid hcl
              rw [hkv] at k0
              subst hk
              clear hkn hkv hcl e1
              go_wp2_with fail
              go_meet
              exact ⟨rfl, by rw [HE1.out]; go_num, HFIN.out HCL.out⟩
            · by_cases hsz : s = z
              · subst hsz
                have hcl : clashB K (q : Int) s = false := by unfold clashB; rw [hkn]; simp
                have hk := HEK.out
                rw [learnK_ok HPC.out hcl] at hk
                have e1 : learnN (i : Int) root K (q : Int) s p cnt = cnt := by
                  unfold learnN cntL
                  rw [if_pos (learnK_ok HPC.out hcl), hkn]
                  rfl
                have HE1 := Lib.hid e1
                have HCL := Lib.hid hcl
                have hs0' : ¬ s < 0 := by omega
                have hss : (s == s) = true := beq_iff_eq.2 rfl
                rw [hkv] at k0
                subst hk
                clear hkn hkv hcl e1
                go_wp2_with fail
                go_meet
                exact ⟨rfl, by rw [HE1.out], HFIN.out HCL.out⟩
              · have hcl : clashB K (q : Int) z = true := by unfold clashB; rw [hkn]; exact decide_eq_true hsz
                have hk := HEK.out
                rw [learnK_clash HPC.out hcl] at hk
                have hsz' : (s == z) = false := beq_eq_false_iff_ne.2 hsz
                rw [hkv] at k0
                subst hk
                clear hkn hkv hcl hsz HFIN
                obtain ⟨s1, s2⟩ := HSAME.out (by decide)
                have HS1 := Lib.hid s1
                have HS2 := Lib.hid s2
                clear s1 s2
                go_wp2_with fail
                go_meet
                exact ⟨rfl, by rw [HS1.out], Lib.hid HI20.out.ext, Lib.hid HI20.out.tr, ⟨pv, Lib.hid (by rw [HS2.out]; exact HI20.out.kn)⟩, Lib.hid HI20.out.rb, HR20⟩
          case rest =>
          as_aux_lemma =>
          obtain ⟨rfl, rfl, HE20, HT20, ⟨pv', HK20⟩, HS20, HR20⟩ := hcut
          obtain ⟨w20, rfl⟩ : ∃ W, W = wc := ⟨_, rfl⟩
          have HF := Lib.hid (Learn_any HT20.out (by omega) b z A5 p.length c5 p HR20.out HC5.out HS20.out HGB.out)
          rw [HEK.out] at HF
          clear HI19 HOB HAV
          go_wp2_with fail
          refine HF.out.mono ?_
          rintro _ w21 ⟨rfl, ⟨N', hN', ht21⟩, hg21⟩
          have hE21 : Ext w w21 := gb_none (gb_row (HE20.out.gb none) hg21 (fun g hg => by injection hg with hg; have := HPB.out.m0; omega))
          have hK21 := HK20.out.kept hg21 (by have := HPB.out.mkb; omega) (by have := HPB.out.mkb; have := HPB.out.kq; omega)
          have hS21 : qb + 1 ≤ w21.heap.size := Nat.le_trans HS20.out hg21.size
          have HE21 := Lib.hid hE21
          have HPI21 : Hid (PI w w21 (qb + 1) tb mb kb qb i N' (learnN (i : Int) root K b z p cnt) root (learnKn (i : Int) root K b z p) pv') := Lib.hid ⟨hE21, ht21, hK21, hS21⟩
          have hcn' : learnN (i : Int) root K b z p cnt ≤ cnt + 1 := by unfold learnN cntL; split <;> (try split) <;> omega
          clear ht21 hg21 hE21 hK21 hS21 HE20 HT20 HK20 HS20 HF HR20
          go_wp2_with fail
          refine (HER.out ek _ HE21.out).mono ?_
          rintro _ w22 ⟨rfl, hb22⟩
          go_wp2_with fail
          go_meet
          exact ⟨N', _, _, pv', rfl, rfl, hN', hcn', Lib.hid (HPI21.out.extend hb22)⟩
      case rest =>
      as_aux_lemma =>
      obtain ⟨N', cnt', K', pv', rfl, rfl, hN', hcn', HI2⟩ := hcut
      obtain ⟨w22, rfl⟩ : ∃ W, W = wc := ⟨_, rfl⟩
      obtain ⟨fk, hfk⟩ : ∃ k, fdK (i : Int) K' b = k := ⟨_, rfl⟩
      obtain ⟨ks, hks⟩ : ∃ k, knS (i : Int) K' b = k := ⟨_, rfl⟩
      obtain ⟨kp, hkp⟩ : ∃ k, knP (i : Int) K' b = k := ⟨_, rfl⟩
      have HFK := Lib.hid hfk
      have HKS := Lib.hid hks
      have HKP := Lib.hid hkp
      have HKL : Hid (kp.length ≤ 4096) := Lib.hid (by
        rw [← hkp]
        unfold knP
        split
        · rename_i h0
          have h1 := fdK_known h0
          cases hx : K' b with
          | none => rw [hx] at h1; cases h1
          | some y =>
            obtain ⟨s, q⟩ := y
            exact HI2.out.kn.short b s q hx
        · exact Nat.zero_le _)
      clear hfk hks hkp HI18 v0 v1 HB18
      go_upto_if 230 with (fail)
      go_cut [11, 28, 29] (fun ev sv qv wc => ∃ (A6 : Option Addr) (c6 : Nat), ev = .int .i64 fk ∧ sv = .int .i64 ks ∧ qv = .slice A6 kp.length c6 ∧ c6 ≤ maxLen ∧ Hid (Rd wc 1 A6 kp.length c6 (kp.map (Value.int .i64))) ∧ w22 = wc)
      case first =>
        as_aux_lemma =>
        have hbF := HIB.out
        have h1 := HFK.out
        have h2 := HKS.out
        have h3 := HKP.out
        unfold knS at h2
        unfold knP at h3
        by_cases hin_ : 0 ≤ b ∧ b < (i : Int)
        case neg =>
          rw [decide_eq_false hin_] at hbF
          have hr := fdK_range K' hin_
          rw [hr] at h1
          rw [if_neg (by rw [hr]; decide)] at h2 h3
          subst h1 h2 h3 hbF
          clear hin_ hr
          go_wp2_with fail
          go_meet
          exact ⟨none, 0, rfl, rfl, rfl, Nat.zero_le _, Lib.hid (Rd.nil _ _ _ _), rfl⟩
        rw [decide_eq_true hin_] at hbF
        obtain ⟨hb0, hb1⟩ := hin_
        subst hbF
        obtain ⟨q, rfl⟩ := Int.eq_ofNat_of_zero_le hb0
        have hqi : q < i := by omega
        have k0 := HI2.out.kn.sum hqi
        have r0 := HI2.out.kn.row hqi
        rcases kv_neg HI2.out.kn hqi with ⟨hkn, hkv⟩ | ⟨s, pp, hkn, hkv, hs0⟩
        · have hr := fdK_none ⟨hb0, hb1⟩ hkn
          rw [hr] at h1
          rw [if_neg (by rw [hr]; decide)] at h2 h3
          rw [hkv] at k0
          subst h1 h2 h3
          clear hr hkn hkv r0
          go_wp2_with fail
          go_meet
          exact ⟨none, 0, rfl, rfl, rfl, Nat.zero_le _, Lib.hid (Rd.nil _ _ _ _), rfl⟩
        · have hr := fdK_some ⟨hb0, hb1⟩ hkn
          rw [hr] at h1
          rw [if_pos hr, hkn] at h2 h3
          have h2' : s = ks := h2
          have h3' : pp = kp := h3
          obtain ⟨_, A6, c6, e6, m6, R6, _⟩ := HI2.out.kn.rows q hqi s pp hkn
          rw [hkv] at k0
          rw [e6] at r0
          have HR6 := Lib.hid R6
          have hs0' : ¬ s < 0 := by omega
          clear h2 h3 R6 e6
          subst h1 h2' h3'
          clear hr hkn hkv
          go_wp2_with fail
          go_meet
          exact ⟨A6, c6, rfl, rfl, rfl, m6, HR6, rfl⟩
      case rest =>
      as_aux_lemma =>
      obtain ⟨A6, c6, rfl, rfl, rfl, hc6, HR6, rfl⟩ := hcut
      have HKN := Lib.hid (Knows_any HI2.out.tr b (by omega))
      have HPR := Lib.hid fun W (e : Ext w22 W) => Prove_any (HI2.out.tr.ext e) b (by omega) (by rw [HKP.out]; exact HKL.out)
      rw [HKS.out, HFK.out] at HKN
      rw [HKP.out, HFK.out] at HPR
      have HMN := Lib.hid fun W (e : Ext w22 W) => Many_any (HI2.out.tr.ext e)
      have HEW := Lib.hid HI2.out.ext
      clear HFK HKS HKP HIB
      go_wp2_with fail
      refine HKN.out.mono ?_
      rintro _ w23 ⟨rfl, hb23⟩
      have E23 := Lib.hid hb23
      clear hb23 HKN
      go_wp2_with fail
      refine (HER.out fk _ (HEW.out.trans E23.out)).mono ?_
      rintro _ w24 ⟨rfl, hb24⟩
      have E24 := Lib.hid (E23.out.trans hb24)
      clear hb24 E23
      go_wp2_with fail
      refine (HPR.out _ E24.out).mono ?_
      rintro _ w25 ⟨⟨v25, rfl, o25⟩, hb25⟩
      obtain ⟨A7, c7, rfl, hc7, R7⟩ := o25.rd
      have HR7 := Lib.hid R7
      have E25 := Lib.hid (E24.out.trans hb25)
      clear hb25 E24 o25 R7 HPR
      go_wp2_with fail
      refine (HER.out fk _ (HEW.out.trans E25.out)).mono ?_
      rintro _ w26 ⟨rfl, hb26⟩
      have E26 := Lib.hid (E25.out.trans hb26)
      have HIN := Lib.hid (Ints_any A7 A6 kp.length kp.length c7 c6 kp kp w26 (HR7.out.ext hb26) (HR6.out.ext E26.out) hc7 hc6)
      rw [sameB_self] at HIN
      clear hb26 E25
      go_wp2_with fail
      refine HIN.out.mono ?_
      rintro _ w27 ⟨rfl, hb27⟩
      have E27 := Lib.hid (E26.out.trans hb27)
      have hkk : (ks == ks) = true := beq_iff_eq.2 rfl
      have hcc : ((cnt' : Int) == (cnt' : Int)) = true := beq_iff_eq.2 rfl
      clear hb27 E26 HIN HR7
      go_wp2_with fail
      refine (HMN.out _ E27.out).mono ?_
      rintro _ _ ⟨rfl, rfl⟩
      go_wp2_with fail
      go_roundw
      case rel => exact ⟨st + 1, N', cnt', K', pv', rfl, by go_num, by omega, by omega, by omega, by omega, Lib.hid (HI2.out.extend E27.out)⟩
      case measure => simp [intOf]; omega

theorem walk (A : Option Addr) (n c : Nat) (xs : List Int) (size root : Int) (A2 : Option Addr) (n2 c2 : Nat) (rs : List (RowG Int)) (A3 : Option Addr) (n3 c3 : Nat) (ps : List Int) (w : World)
    (hl : xs.length = n) (hm : c ≤ maxLen) (hr : Rd w 1 A n c (xs.map (Value.int .i64))) (hgd : ∀ y ∈ xs, igood y) (h1 : igood size) (h2 : igood root) (hl2 : rs.length = n2) (hm2 : c2 ≤ maxLen) (hr2 : Rd w 1 A2 n2 c2 (rs.flatMap RowG.cells)) (g2 : ∀ y ∈ rs, RowG.good w 1 icells igood y) (hl3 : ps.length = n3) (hm3 : c3 ≤ maxLen) (hr3 : Rd w 1 A3 n3 c3 (ps.map (Value.int .i64))) (hgd3 : ∀ y ∈ ps, igood y)
    (hg : ErrG w) :
    Calls Tryd.prog 3 #[.slice A n c, .int .i64 size, .int .i64 root, .slice A2 n2 c2, .slice A3 n3 c3] w fun e w' => e = .returned (.bool true) ∧ Ext w w' := by
  by_cases hok : 1 ≤ size ∧ size ≤ 200 ∧ vld root = true
  · obtain ⟨a, b, d⟩ := hok
    obtain ⟨sz, rfl⟩ := Int.eq_ofNat_of_zero_le (show 0 ≤ size by omega)
    exact walk_ok A n c xs sz root A2 n2 c2 rs A3 n3 c3 ps w hl hm hr hl2 hm2 hr2 g2 hl3 hm3 hr3 hg (by omega) (by omega) d
  · exact walk_bad A n c xs size root A2 n2 c2 A3 n3 c3 w hg hok
end Go.Proofs.YtmknpehjncpekaaDoor.prunePlays
