/- A head is itself. -/
import Derived.Test.YtmknpehjncpekaaGreatDoorJMirrorPlays1
import Derived.Laws.StructEq
import Derived.Test.YtmknpehjncpekaaGreatDoorJMirrorPlays22
import Derived.Test.YtmknpehjncpekaaGreatDoorJMirrorPlays23
import Derived.Test.YtmknpehjncpekaaGreatDoorJMirrorPlays24
import Derived.Deep.RegionHeld3
import Derived.Deep.DeepCutAuto
import Derived.Deep.CutRange
import Derived.Deep.CutBlock
namespace Go.Proofs.YtmknpehjncpekaaGreatDoor
open Go.RowKit
set_option linter.unusedVariables false
theorem hd_eql_self (a b c d : Int) (w : World) : (binOp .eql 34 (.agg #[.int .i64 a, .int .i64 b, .int .i64 c, .int .i64 d]) (.agg #[.int .i64 a, .int .i64 b, .int .i64 c, .int .i64 d])).run Tryz.prog w = .ok (.bool true) w := by
  have u3 := Tryz.underlying3
  have a3 := Tryz.isAgg3
  have z3 := Tryz.sizeOf3
  have hS : Tryz.prog.underlying 34 = some (.struct (Tryz.prog.fieldsOf 34)) := by kernel_rfl
  have hp : Tryz.prog.stoodInHeld 34 = false := by kernel_rfl
  rw [run_eql_struct, show (10000 : Nat) = 9999 + 1 from rfl, run_equalIn_agg w 9999 34 _ _ hS hp]
  simp only [Program.fieldsOf, Tryz.underlying34]
  go_simp
theorem hd_neq_self (a b c d : Int) (w : World) : (binOp .neq 34 (.agg #[.int .i64 a, .int .i64 b, .int .i64 c, .int .i64 d]) (.agg #[.int .i64 a, .int .i64 b, .int .i64 c, .int .i64 d])).run Tryz.prog w = .ok (.bool false) w := by
  have u3 := Tryz.underlying3
  have a3 := Tryz.isAgg3
  have z3 := Tryz.sizeOf3
  have hS : Tryz.prog.underlying 34 = some (.struct (Tryz.prog.fieldsOf 34)) := by kernel_rfl
  have hp : Tryz.prog.stoodInHeld 34 = false := by kernel_rfl
  rw [run_neq_struct, show (10000 : Nat) = 9999 + 1 from rfl, run_equalIn_agg w 9999 34 _ _ hS hp]
  simp only [Program.fieldsOf, Tryz.underlying34]
  go_simp
theorem hd_guard (op : BinOp) (x y : Operand) (xs ys : Array Value) (w : World) : (eqGuard op 34 x y (.agg xs) (.agg ys)).run Tryz.prog w = .ok () w :=
  run_eqGuard_agg w op _ x y xs ys (by kernel_rfl)
end Go.Proofs.YtmknpehjncpekaaGreatDoor

/- MirrorPlays: the walk. -/
namespace Go.Proofs.YtmknpehjncpekaaGreatDoor.mirrorPlays
open Go.RowKit Go.WideShapes
set_option linter.unusedVariables false
attribute [local go_sem ↓] Go.wp_at_zero Go.wp_at_succ

theorem wt_neq_self (a b c : Int) (w : World) : (binOp .neq 43 (.agg #[.int .i64 a, .int .i64 b, .int .i64 c]) (.agg #[.int .i64 a, .int .i64 b, .int .i64 c])).run Tryz.prog w = .ok (.bool false) w := by
  have u3 := Tryz.underlying3
  have a3 := Tryz.isAgg3
  have z3 := Tryz.sizeOf3
  have hS : Tryz.prog.underlying 43 = some (.struct (Tryz.prog.fieldsOf 43)) := by kernel_rfl
  have hp : Tryz.prog.stoodInHeld 43 = false := by kernel_rfl
  rw [run_neq_struct, show (10000 : Nat) = 9999 + 1 from rfl, run_equalIn_agg w 9999 43 _ _ hS hp]
  simp only [Program.fieldsOf, Tryz.underlying43]
  go_simp
theorem wt_guard (op : BinOp) (x y : Operand) (xs ys : Array Value) (w : World) : (eqGuard op 43 x y (.agg xs) (.agg ys)).run Tryz.prog w = .ok () w :=
  run_eqGuard_agg w op _ x y xs ys (by kernel_rfl)
theorem _root_.Go.Proofs.YtmknpehjncpekaaGreatDoor.Mi.hear_key (m : Mi) (r : Rp) : (m.hear r).1.key = m.key := by
  unfold Mi.hear Mi.hearH Mi.hearE Mi.hearP Mi.settle Mi.forget
  repeat' split
  all_goals rfl
/-- two mirrors, apart -/
structure PlI (w W : World) (m1 m2 : Nat) (m : Mi) (F1 F2 : Nat → Prop) : Prop where
  ext : Ext w W
  a : MM 54 W F1 m1 m
  b : MM 36 W F2 m2 m
  lo : ∀ g, F1 g ∨ F2 g → w.heap.size ≤ g
  hi : ∀ g, F1 g ∨ F2 g → g < W.heap.size
  apart : ∀ g, F1 g → ¬ F2 g
set_option maxRecDepth 100000 in
set_option maxHeartbeats 8000000 in
theorem walk_no (key : Int) (A : Option Addr) (n c : Nat) (A2 : Option Addr) (n2 c2 : Nat) (A3 : Option Addr) (n3 c3 : Nat) (w : World) (hkey : keyI key = false) (hg : ErrG w) :
    Calls Tryz.prog 3 #[.int .i64 key, .slice A n c, .slice A2 n2 c2, .slice A3 n3 c3] w fun e w' => e = .returned (.bool true) ∧ Ext w w' := by
  obtain ⟨hE, hN, hG0⟩ := errR_rules
  have HKB := Lib.hid fun W => RKeyB_any key W
  rw [hkey] at HKB
  have HNW := Lib.hid (MNew_any key)
  have HK := Lib.hid hkey
  have HG := Lib.hid hg
  clear hkey hg
  go_enter Tryz.func3, Tryz.ntmps3
  go_wp2_with fail
  refine (HKB.out _).mono ?_
  rintro _ w1 ⟨rfl, hb1⟩
  have HE1 : Hid (Ext w w1) := Lib.hid (by rw [hb1]; exact Ext.refl _)
  clear hb1
  go_wp2_with fail
  refine (HNW.out _).mono ?_
  rintro _ w2 (⟨_, rfl, hb2⟩ | ⟨h1', _⟩)
  · have HE2 := Lib.hid (HE1.out.trans hb2)
    have HEI := Lib.hid (Error_is 1 w2 (HG.out.ext HE2.out))
    clear hb2
    go_wp2_with fail
    refine HEI.out.mono ?_
    rintro _ w3 ⟨rfl, hb3⟩
    go_wp2_with fail
    go_ret
    exact ⟨rfl, HE2.out.trans hb3⟩
  · rw [HK.out] at h1'; cases h1'
set_option maxRecDepth 100000 in
set_option maxHeartbeats 8000000 in
theorem walk_yes (key : Int) (A : Option Addr) (n c : Nat) (es : List Ent) (A2 : Option Addr) (n2 c2 : Nat) (rs : List (RowG Int)) (A3 : Option Addr) (n3 c3 : Nat) (ps : List RpG) (w : World)
    (hkey : keyI key = true) (hm : c ≤ maxLen) (hr : Rd w 2 A n c (es.flatMap Ent.cells)) (hz : ∀ e ∈ es, e.data.size ≤ 140737488351232) (hm2 : c2 ≤ maxLen) (hr2 : Rd w 1 A2 n2 c2 (rs.flatMap RowG.cells)) (g2 : ∀ y ∈ rs, RowG.good w 1 icells igood y)
    (hm3 : c3 ≤ maxLen) (hr3 : Rd w 7 A3 n3 c3 (ps.flatMap RpG.cells)) (g3 : ∀ y ∈ ps, RpG.good w y) (hD : DebG w) (hP : PowG w) (hg : ErrG w) :
    Calls Tryz.prog 3 #[.int .i64 key, .slice A n c, .slice A2 n2 c2, .slice A3 n3 c3] w fun e w' => e = .returned (.bool true) ∧ Ext w w' := by
  obtain ⟨hE, hN, hG0⟩ := errR_rules
  have hx := hr.lenE
  have hx2 : rs.length = n2 := by have := hr2.1; rw [flat_rows] at this; simpa using this
  have hx3 := hr3.lenP
  have hnc := hr.2.1
  have hnc2 := hr2.2.1
  have hnc3 := hr3.2.1
  have hcs : c ≤ 9223372036854775807 := by unfold maxLen at hm; omega
  have hcs2 : c2 ≤ 9223372036854775807 := by unfold maxLen at hm2; omega
  have hcs3 : c3 ≤ 9223372036854775807 := by unfold maxLen at hm3; omega
  have HKB := Lib.hid fun W => RKeyB_any key W
  rw [hkey] at HKB
  have HNW := Lib.hid (MNew_any key)
  have HK := Lib.hid hkey
  have HR := Lib.hid hr
  have HR2 := Lib.hid hr2
  have HR3 := Lib.hid hr3
  have HX := Lib.hid hx
  have HX2 := Lib.hid hx2
  have HX3 := Lib.hid hx3
  have HD := Lib.hid hD
  have HPW := Lib.hid hP
  have HGE := Lib.hid hg
  have HM := Lib.hid hm
  have HZ := Lib.hid hz
  have HG2 := Lib.hid g2
  have HG3 := Lib.hid g3
  clear hkey hr hr2 hr3 hx hx2 hx3 hD hP hg hm hm2 hm3 hz g2 g3
  go_enter Tryz.func3, Tryz.ntmps3
  go_wp2_with fail
  refine (HKB.out _).mono ?_
  rintro _ w1 ⟨rfl, hb1⟩
  have HE1 : Hid (Ext w w1) := Lib.hid (by rw [hb1]; exact Ext.refl _)
  clear hb1 HKB
  go_wp2_with fail
  refine (HNW.out _).mono ?_
  rintro _ w2 hnew
  rcases hnew with ⟨h1', _⟩ | ⟨_, rfl, hmi, hb2⟩
  · rw [HK.out] at h1'; cases h1'
  rw [errR_0]
  have HE2 := Lib.hid (HE1.out.trans hb2)
  have HMI := Lib.hid hmi
  have hsz1 := HE1.out.size
  obtain ⟨m1, hm1⟩ : ∃ x, w1.heap.size = x := ⟨_, rfl⟩
  rw [hm1] at HMI hsz1
  rw [hm1]
  have HEI : Hid (Calls Tryz.prog 6 #[.nilIface, .int .i64 0] w2 fun e w' => e = .returned (.bool true) ∧ Ext w2 w') := Lib.hid (Error_is 0 w2 (HGE.out.ext HE2.out))
  clear hb2 hmi hm1 HNW HE1
  go_wp2_with fail
  refine HEI.out.mono ?_
  rintro _ w3 ⟨rfl, hb3⟩
  have HE3 := Lib.hid (HE2.out.trans hb3)
  have HMI3 := Lib.hid (HMI.out.ext hb3)
  clear hb3 HMI HE2 HEI
  have B14 : Bk (w3.alloc (.cells #[.int .i64 key, .slice none 0 0, .int .i64 0, .int .i64 0, .int .i64 0, .int .i64 0, .int .i64 0, .int .i64 0, .int .i64 0, .int .i64 0, .slice none 0 0] 36)) w3.heap.size 36 (mcells key (.slice none 0 0) hd00 hd00 (.slice none 0 0)) := Bk.at_ w3 _ _ w3.heap.size rfl
  have HI0 : Hid (PlI w (w3.alloc (.cells #[.int .i64 key, .slice none 0 0, .int .i64 0, .int .i64 0, .int .i64 0, .int .i64 0, .int .i64 0, .int .i64 0, .int .i64 0, .int .i64 0, .slice none 0 0] 36)) m1 w3.heap.size (Mi.new key) (fun g => g = m1) (fun g => g = w3.heap.size)) := Lib.hid ⟨HE3.out.alloc _,
    ⟨_, _, HMI3.out.ext ((Ext.refl _).alloc _), fun g hg => by
      rcases hg with rfl | hg | hg
      · rfl
      · simp [Value.ownBlock] at hg
      · simp [Value.ownBlock] at hg⟩,
    ⟨_, _, ⟨B14, own_nil _ _ _ _, own_nil _ _ _ _, fun g hg => by simp [Value.ownBlock] at hg, Mi.Good.new key⟩, fun g hg => by
      rcases hg with rfl | hg | hg
      · rfl
      · simp [Value.ownBlock] at hg
      · simp [Value.ownBlock] at hg⟩,
    fun g hg => by
      have := HE3.out.size
      rcases hg with rfl | rfl <;> omega,
    fun g hg => by
      have := HMI3.out.bk.lt
      rcases hg with rfl | rfl <;> simp <;> omega,
    fun g h1 h2 => by
      have := HMI3.out.bk.lt
      omega⟩
  go_upto_region 10 with (fail)
  generalize w3.alloc (.cells #[.int .i64 key, .slice none 0 0, .int .i64 0, .int .i64 0, .int .i64 0, .int .i64 0, .int .i64 0, .int .i64 0, .int .i64 0, .int .i64 0, .slice none 0 0] 36) = W3 at *
  generalize w3.heap.size = m2 at *
  clear B14 HMI3 HE3
  go_wp2_with fail
  go_loopw [15] (fun x wr => ∃ (i : Nat) (m : Mi) (F1 F2 : Nat → Prop), x = .int .i64 i ∧ i ≤ 60 ∧ i ≤ n2 ∧ Hid (PlI w wr m1 m2 m F1 F2) ∧ Hid (m.key = key)) (fun y _ => 60 - (intOf y).toNat)
  case atStart => exact ⟨0, Mi.new key, _, _, rfl, Nat.zero_le _, Nat.zero_le _, HI0, Lib.hid rfl⟩
  case round =>
    obtain ⟨i, m, F1, F2, rfl, hi60, hin, HI, HKY⟩ := hrel
    obtain ⟨wo, rfl⟩ : ∃ W, W = wr := ⟨_, rfl⟩
    by_cases hc : i < n2 ∧ i < 60
    case neg =>
      have hc' : (¬ (i : Int) < (n2 : Int)) ∨ ((i : Int) < (n2 : Int) ∧ ¬ (i : Int) < 60) := by omega
      clear hc
      rcases hc' with h | ⟨h, h2⟩
      all_goals
        go_wp2_with fail
        go_ret
        exact ⟨rfl, HI.out.ext⟩
    obtain ⟨hc1, hc2⟩ := hc
    have hc1' : (i : Int) < (n2 : Int) := by omega
    have hc2' : (i : Int) < 60 := by omega
    have hgr := List.getElem?_eq_getElem (l := rs) (i := i) (by rw [HX2.out]; exact hc1)
    have hrg := HG2.out _ (List.mem_of_getElem? hgr)
    generalize rs[i]'(by rw [HX2.out]; exact hc1) = rw_ at *
    obtain ⟨ad2, rfl, hb2, cr2⟩ := HR2.out.getRow hgr
    obtain ⟨rA, rn, rc, rx⟩ := rw_
    obtain ⟨hrl, hrm, hrr, -⟩ := hrg
    dsimp only at hrl hrm hrr cr2
    have HRR := Lib.hid (show Rd w 1 rA rn rc (rx.map (Value.int .i64)) from by rw [← flat_icells]; exact hrr)
    have HCR := Lib.hid cr2
    have HRL := Lib.hid hrl
    have hrn := hrr.2.1
    have hrcs : rc ≤ 9223372036854775807 := by unfold maxLen at hrm; omega
    have hb2' : (ad2.add i).block < w.heap.size := by rw [blk_add]; exact hb2
    clear hgr hrl hrm hrr cr2
    have B17 := Bk.at_ wo 37 #[.int .i64 0, .int .i64 0] wo.heap.size rfl
    have e17 : Ext wo (wo.alloc (.cells #[.int .i64 0, .int .i64 0] 37)) := (Ext.refl _).alloc _
    go_upto_region 14 with (fail)
    generalize wo.alloc (.cells #[.int .i64 0, .int .i64 0] 37) = W17 at *
    obtain ⟨g17, hg17⟩ : ∃ g, wo.heap.size = g := ⟨_, rfl⟩
    rw [hg17] at B17
    try rw [hg17]
    have HG17 := Lib.hid hg17
    have HB17 := Lib.hid B17
    have HE17 := Lib.hid e17
    clear hg17 B17 e17
    -- the step's two numbers
    go_upto_block 2 with (fail)
    go_cut [17] (fun _ wc => ∃ a b : Int, Hid (Bk wc g17 37 #[.int .i64 a, .int .i64 b]) ∧ Hid (Ext wo wc))
    case first =>
      as_aux_lemma =>
      go_wp2_with fail
      go_loopw [17] (fun x wr => ∃ (j : Nat) (a b : Int), x = .int .i64 j ∧ j ≤ 2 ∧ j ≤ rn ∧ Hid (Bk wr g17 37 #[.int .i64 a, .int .i64 b]) ∧ Hid (Ext wo wr)) (fun x _ => 2 - (intOf x).toNat)
      case atStart => exact ⟨0, 0, 0, rfl, by omega, by omega, HB17, HE17⟩
      case round =>
        obtain ⟨j, a, b, rfl, hj2, hjn, HBv, HEv⟩ := hrel
        have ev := HI.out.ext.trans HEv.out
        have cr2 := (ev.cell hb2').trans HCR.out
        by_cases hq : j < rn ∧ j < 2
        case neg =>
          have hq' : (¬ (j : Int) < (rn : Int)) ∨ ((j : Int) < (rn : Int) ∧ ¬ (j : Int) < 2) := by omega
          clear hq
          rcases hq' with h | ⟨h, h'⟩
          all_goals
            go_wp2_with fail
            go_meet
            exact ⟨a, b, HBv, HEv⟩
        obtain ⟨hq1, hq2⟩ := hq
        have hq1' : (j : Int) < (rn : Int) := by omega
        have hq2' : (j : Int) < 2 := by omega
        have hgz := List.getElem?_eq_getElem (l := rx) (i := j) (by rw [HRL.out]; exact hq1)
        generalize rx[j]'(by rw [HRL.out]; exact hq1) = z at *
        obtain ⟨adz, hAz, hbz, cz⟩ := (HRR.out.ext ev).getI hgz
        subst hAz
        have hgj : g17 < wr.heap.size := HBv.out.lt
        have hj01 : j = 0 ∨ j = 1 := by omega
        obtain ⟨u, kj⟩ : ∃ u : Int, wr.cell? ⟨g17, j, none⟩ = some (.int .i64 u) := by
          rcases hj01 with rfl | rfl
          · exact ⟨a, HBv.out.cell 0⟩
          · exact ⟨b, HBv.out.cell 1⟩
        have fj := HBv.out.frozen j
        have HN' : Hid (∃ a' b' : Int, (#[.int .i64 a, .int .i64 b] : Array Value).setIfInBounds j (.int .i64 z) = #[.int .i64 a', .int .i64 b']) := by
          rcases hj01 with rfl | rfl
          · exact ⟨z, b, rfl⟩
          · exact ⟨a, z, rfl⟩
        have hge : wo.heap.size ≤ g17 := by rw [HG17.out]; exact Nat.le_refl _
        clear hgz hj01
        go_wp2_with fail
        go_roundw
        case rel =>
          obtain ⟨a', b', h'⟩ := HN'.out
          exact ⟨j + 1, a', b', by go_num, by omega, by omega, Lib.hid (by have := HBv.out.set_ j (.int .i64 z); rw [h'] at this; exact this), Lib.hid (HEv.out.setCell (p := ⟨g17, j, none⟩) hge _)⟩
        case measure => simp [intOf]; omega
    case rest =>
    as_aux_lemma =>
    obtain ⟨a, b, HB17', HE18⟩ := hcut
    obtain ⟨w18, rfl⟩ : ∃ W, W = wc := ⟨_, rfl⟩
    have B19 := Bk.at_ w18 40 #[.int .i64 0, .int .i64 0, .int .i64 0, .int .i64 0, .int .i64 0, .slice none 0 0, .slice none 0 0] w18.heap.size rfl
    have e19 : Ext w18 (w18.alloc (.cells #[.int .i64 0, .int .i64 0, .int .i64 0, .int .i64 0, .int .i64 0, .slice none 0 0, .slice none 0 0] 40)) := (Ext.refl _).alloc _
    have hge19 := HE18.out.size
    clear HB17 HE17
    go_upto_region 19 with (fail)
    generalize w18.alloc (.cells #[.int .i64 0, .int .i64 0, .int .i64 0, .int .i64 0, .int .i64 0, .slice none 0 0, .slice none 0 0] 40) = W19 at *
    obtain ⟨g19, hg19⟩ : ∃ g, w18.heap.size = g := ⟨_, rfl⟩
    rw [hg19] at B19 hge19
    try rw [hg19]
    have B17' := HB17'.out.ext e19
    have v0 := B17'.cell 0
    have v1 := B17'.cell 1
    have HE19 := Lib.hid (HE18.out.trans e19)
    have HB19 := Lib.hid B19
    have HB17 := Lib.hid B17'
    clear B19 B17' e19 hg19 HB17' HE18
    go_cut [93] (fun bv wc => bv = .bool (decide (0 ≤ a ∧ a ≤ (n : Int) ∧ 0 ≤ b ∧ a ≤ 200)) ∧ wc = W19)
    case first =>
      as_aux_lemma =>
      have h5 : a < 0 ∨ (0 ≤ a ∧ (n : Int) < a) ∨ (0 ≤ a ∧ a ≤ (n : Int) ∧ b < 0) ∨ (0 ≤ a ∧ a ≤ (n : Int) ∧ 0 ≤ b ∧ 200 < a) ∨ (0 ≤ a ∧ a ≤ (n : Int) ∧ 0 ≤ b ∧ a ≤ 200) := by omega
      rcases h5 with k1 | ⟨k1, k2⟩ | ⟨k1, k2, k3⟩ | ⟨k1, k2, k3, k4⟩ | ⟨k1, k2, k3, k4⟩
      · go_wp2_with fail
        go_meet
        exact ⟨congrArg Value.bool (decide_eq_false (by omega)).symm, rfl⟩
      · go_wp2_with fail
        go_meet
        exact ⟨congrArg Value.bool (decide_eq_false (by omega)).symm, rfl⟩
      · go_wp2_with fail
        go_meet
        exact ⟨congrArg Value.bool (decide_eq_false (by omega)).symm, rfl⟩
      · go_wp2_with fail
        go_meet
        exact ⟨congrArg Value.bool (by have h1 : ¬ a ≤ 200 := by omega
                                       simp [h1]), rfl⟩
      · go_wp2_with fail
        go_meet
        exact ⟨congrArg Value.bool (decide_eq_true (by omega)).symm, rfl⟩
    case rest =>
    as_aux_lemma =>
    obtain ⟨rfl, hwc⟩ := hcut
    obtain rfl : W19 = wc := hwc.symm
    obtain ⟨ok, hok⟩ : ∃ k : Bool, decide (0 ≤ a ∧ a ≤ (n : Int) ∧ 0 ≤ b ∧ a ≤ 200) = k := ⟨_, rfl⟩
    rw [hok]
    have HOK := Lib.hid hok
    clear hok
    obtain ⟨wh, fr, to_, hwant, hwh, hfr, hto⟩ := Mi.want_nat HI.out.a.good
    have HWN : Hid (∀ W, Ext wo W → Calls Tryz.prog 8 #[.pointer (some ⟨m2, 0, none⟩)] W fun e w' => e = .returned (.agg #[.int .i64 wh, .int .i64 fr, .int .i64 to_]) ∧ Ext W w') := Lib.hid fun W e => by
      have := (HI.out.b.ext e).wantR
      rw [hwant] at this
      exact this
    clear hwant
    go_upto_if 93 with (fail)
    go_cut [] (fun wc => ∃ (r : Rp) (A5 : Option Addr) (n5 c5 : Nat) (A6 : Option Addr) (n6 c6 : Nat), Hid (Bk wc g19 40 #[.int .i64 r.what, .int .i64 r.head.size, .int .i64 r.head.root, .int .i64 r.head.time, .int .i64 r.head.sign, .slice A5 n5 c5, .slice A6 n6 c6]) ∧ Hid (Rd wc 2 A5 n5 c5 (r.ents.flatMap Ent.cells) ∧ c5 ≤ maxLen) ∧ Hid (Rd wc 1 A6 n6 c6 (r.proof.map (Value.int .i64)) ∧ c6 ≤ maxLen) ∧ Hid (Ext wo wc) ∧ Hid ((0 < n5 → ∀ ad, A5 = some ad → ad.block < w.heap.size ∨ wo.heap.size ≤ ad.block) ∧ (0 < n6 → ∀ ad, A6 = some ad → ad.block < w.heap.size ∨ wo.heap.size ≤ ad.block)))
    case first =>
      as_aux_lemma =>
      have hwr := HI.out.ext
      cases ok with
      | true =>
        have hb := of_decide_eq_true HOK.out
        obtain ⟨p, rfl⟩ := Int.eq_ofNat_of_zero_le hb.1
        have hpn : p ≤ n := by omega
        have hp200 : p ≤ 200 := by omega
        have hpc : p ≤ c := by omega
        have HRP : Hid (∀ W, Ext W19 W → Calls Tryz.prog 7 #[.slice A p c, .int .i64 key, .agg #[.int .i64 wh, .int .i64 fr, .int .i64 to_], .int .i64 b] W fun e w' => (∃ v, e = .returned v ∧ RepOk W19.heap.size w' v) ∧ Ext W w') := Lib.hid fun W e => by
          refine (Replies_any A p c (es.take p) key wh fr to_ b W (RdE_take (HR.out.ext (hwr.trans (HE19.out.trans e))) hpn) HM.out hp200 (fun e he => HZ.out e (List.mem_of_mem_take he)) hwh hfr hto hb.2.2.1).mono fun e' w' hh => ⟨?_, hh.2⟩
          obtain ⟨v, h1, r, A5, n5, c5, A6, n6, c6, h2, h3, h4, h5, h6, h7, h8⟩ := hh.1
          exact ⟨v, h1, r, A5, n5, c5, A6, n6, c6, h2, h3, h4, h5, h6, fun hn ad k => Nat.le_trans e.size (h7 hn ad k), fun hn ad k => Nat.le_trans e.size (h8 hn ad k)⟩
        have hE19 := HE19.out
        clear hb
        have x0 : ∀ x : WE W19, x.W.cell? ⟨g17, 0, none⟩ = some (.int .i64 p) := fun x => (HB17.out.ext x.h).cell 0
        have x1 : ∀ x : WE W19, x.W.cell? ⟨g17, 1, none⟩ = some (.int .i64 b) := fun x => (HB17.out.ext x.h).cell 1
        go_wp2_with fail
        (refine wp_region_ext_tail (w0 := W19) 9 (by kernel_rfl) (by kernel_rfl) (by (repeat (with_reducible first | exact Ext.refl _ | assumption | refine Ext.drew ?_ | refine Ext.drewN ?_ _ | refine Ext.alloc ?_ _ | refine Ext.trans ?_ (by with_reducible assumption)))) ?_; simp only [List.take_succ_cons, List.take_zero, List.drop_succ_cons, List.drop_zero]; (repeat (go_big_quiet_step (((go_at_call 8; exact quietE (HWN.out _ (HE19.out.trans (WE.h _)))))))); refine wpQuiet_nil ?_)
        rintro _ ⟨xq, rfl⟩
        obtain ⟨x4, hx4⟩ : ∃ w, xq.W = w := ⟨_, rfl⟩
        have hxe : Ext W19 x4 := by rw [← hx4]; exact xq.h
        rw [hx4]
        clear hx4 x0 x1 v0 v1
        go_wp2_with fail
        refine (HRP.out _ hxe).mono ?_
        rintro _ x5 ⟨⟨_, rfl, ⟨rp, A5, n5, c5, A6, n6, c6, rfl, r1, r2, r3, r4, r5, r6⟩⟩, hx5⟩
        have HE5 := Lib.hid (hxe.trans hx5)
        have HB5 := Lib.hid (HB19.out.ext HE5.out)
        have HR5 := Lib.hid r1
        have HR6 := Lib.hid r2
        have HR7 := Lib.hid r3
        have HR8 := Lib.hid r4
        have HR9 := Lib.hid r5
        have HR10 := Lib.hid r6
        have HLT := Lib.hid HB19.out.lt
        clear r1 r2 r3 r4 r5 r6 hx5 hxe
        obtain ⟨rw_, ⟨d0, d1, d2, d3⟩, re, rp_⟩ := rp
        dsimp only [replyV]
        go_wp2_with (refine wpl_store7 (by rfl) 40 _ _ (by rfl) g19 40 _ _ _ _ _ _ _ rw_ d0 d1 d2 d3 A5 A6 n5 c5 n6 c6 (by rfl) (by rfl) Tryz.sizeOf40 HB5.out ?_; intro x6 k1 k2; have K1 := Lib.hid k1; have K2 := Lib.hid k2; clear k1 k2)
        go_meet
        exact ⟨⟨rw_, ⟨d0, d1, d2, d3⟩, re, rp_⟩, A5, n5, c5, A6, n6, c6, K1, Lib.hid ⟨HR5.out.kept K2.out (fun hn ad e k => by
          have h1 := HR9.out hn ad e
          have h2 := HLT.out
          injection k with k
          omega), HR6.out⟩, Lib.hid ⟨HR7.out.kept K2.out (fun hn ad e k => by
          have h1 := HR10.out hn ad e
          have h2 := HLT.out
          injection k with k
          omega), HR8.out⟩, Lib.hid ((HE19.out.trans HE5.out).gbn K2.out hge19), Lib.hid ⟨fun hn ad e => .inr (Nat.le_trans HE19.out.size (HR9.out hn ad e)), fun hn ad e => .inr (Nat.le_trans HE19.out.size (HR10.out hn ad e))⟩⟩
      | false =>
        clear v0 v1
        by_cases hn3 : 0 < n3
        case neg =>
          obtain rfl : n3 = 0 := by omega
          go_wp2_with fail
          go_meet
          exact ⟨⟨0, ⟨0, 0, 0, 0⟩, [], []⟩, none, 0, 0, none, 0, 0, HB19, Lib.hid ⟨Rd.nil _ _ _ _, Nat.zero_le _⟩, Lib.hid ⟨Rd.nil _ _ _ _, Nat.zero_le _⟩, HE19, Lib.hid ⟨fun h => absurd h (by omega), fun h => absurd h (by omega)⟩⟩
        have hn3I : (0 : Int) < (n3 : Int) := by omega
        obtain ⟨jj, hjj⟩ : ∃ jj, i % n3 = jj := ⟨_, rfl⟩
        have hjl : jj < n3 := by rw [← hjj]; exact Nat.mod_lt _ hn3
        have hjm : ((i : Int) % (n3 : Int)) = (jj : Int) := by rw [← hjj]; omega
        have hgp := List.getElem?_eq_getElem (l := ps) (i := jj) (by rw [HX3.out]; exact hjl)
        have hgd := HG3.out _ (List.mem_of_getElem? hgp)
        generalize ps[jj]'(by rw [HX3.out]; exact hjl) = rr at *
        obtain ⟨ad3, hA3, hb3, hcp⟩ := HR3.out.getRp hgp
        subst hA3
        have hev : Ext w W19 := hwr.trans HE19.out
        obtain ⟨c0', c1', c2', c3', c4', c5', c6'⟩ := hcp.ext hev (by rw [blk_add]; exact hb3)
        obtain ⟨⟨gl1, gl2, gl3, -⟩, ⟨gm1, gm2, gm3, -⟩⟩ := hgd
        have HL3 := Lib.hid (gl3.ext hev)
        have HM3 : Hid (Rd W19 1 rr.proof.A rr.proof.n rr.proof.c (rr.proof.xs.map (Value.int .i64))) := Lib.hid (by rw [← flat_icells]; exact gm3.ext hev)
        have HL2 := Lib.hid gl2
        have HM2 := Lib.hid gm2
        have hlt19 : ad3.block < g19 := by have := hev.size; have := hwr.size; omega
        have HL9 : Hid (0 < rr.ents.n → ∀ ad, rr.ents.A = some ad → ad.block < w.heap.size) := Lib.hid gl3.blk
        have HM9 : Hid (0 < rr.proof.n → ∀ ad, rr.proof.A = some ad → ad.block < w.heap.size) := Lib.hid gm3.blk
        have hw19 : w.heap.size ≤ g19 := by have := hwr.size; omega
        obtain ⟨rw_, ⟨d0, d1, d2, d3⟩, ⟨A5, n5, c5, re⟩, ⟨A6, n6, c6, rp_⟩⟩ := rr
        dsimp only at c0' c1' c2' c3' c4' c5' c6' HL3 HM3 HL2 HM2 HL9 HM9
        clear hgp gl1 gl2 gl3 gm1 gm2 gm3 hjj
        go_wp2_with (refine wpl_store7 (by rfl) 40 _ _ (by rfl) g19 40 _ _ _ _ _ _ _ rw_ d0 d1 d2 d3 A5 A6 n5 c5 n6 c6 (by rfl) (by rfl) Tryz.sizeOf40 HB19.out ?_; intro x6 k1 k2; have K1 := Lib.hid k1; have K2 := Lib.hid k2; clear k1 k2)
        go_meet
        exact ⟨⟨rw_, ⟨d0, d1, d2, d3⟩, re, rp_⟩, A5, n5, c5, A6, n6, c6, K1, Lib.hid ⟨HL3.out.kept K2.out (fun hn ad e k => by
          have h1 := HL9.out hn ad e
          injection k with k
          omega), HL2.out⟩, Lib.hid ⟨HM3.out.kept K2.out (fun hn ad e k => by
          have h1 := HM9.out hn ad e
          injection k with k
          omega), HM2.out⟩, Lib.hid (HE19.out.gbn K2.out hge19), Lib.hid ⟨fun hn ad e => .inl (HL9.out hn ad e), fun hn ad e => .inl (HM9.out hn ad e)⟩⟩
    case rest =>
    as_aux_lemma =>
    obtain ⟨r, A5, n5, c5, A6, n6, c6, HB20, HR5, HR6, HE20, HFR⟩ := hcut
    obtain ⟨w20, rfl⟩ : ∃ W, W = wc := ⟨_, rfl⟩
    have HEW := Lib.hid (HI.out.ext.trans HE20.out)
    have hwo := HI.out.ext.size
    have hs20 := HE20.out.size
    have hg19 : g19 < w20.heap.size := HB20.out.lt
    -- where the references' mirror lies while it hears
    obtain ⟨Q2, HQ2⟩ : ∃ Q : Nat → Prop, Hid (Q = fun g => F2 g ∨ w20.heap.size ≤ g) := ⟨_, Lib.hid rfl⟩
    have HMB : Hid (MM 36 w20 Q2 m2 m) := Lib.hid ((HI.out.b.ext HE20.out).mono fun g hg _ => by rw [HQ2.out]; exact .inl hg)
    have HQN : Hid (∀ g, w20.heap.size ≤ g → Q2 g) := Lib.hid fun g hg => by rw [HQ2.out]; exact .inr hg
    have hH := RHear_any Q2 m2 m r A5 n5 c5 A6 n6 c6 w20 HMB.out HQN.out HR5.out.1 HR5.out.2 HR6.out.1 HR6.out.2
    obtain ⟨m', hm'⟩ : ∃ x, (m.hear r).1 = x := ⟨_, rfl⟩
    obtain ⟨mk, hmk⟩ : ∃ x, (m.hear r).2 = x := ⟨_, rfl⟩
    have HH : Hid (Calls Tryz.prog 9 #[.pointer (some ⟨m2, 0, none⟩), replyV r.what r.head A5 n5 c5 A6 n6 c6] w20 fun e w' => e = .returned (.int .i64 mk) ∧ MM 36 w' Q2 m2 m' ∧ Chg w20 w' Q2) := Lib.hid (by
      unfold RPost at hH
      rw [hm', hmk] at hH
      exact hH)
    have hkey' : m'.key = key := by rw [← hm', Mi.hear_key]; exact HKY.out
    have HKY' := Lib.hid hkey'
    have HNQ : Hid (∀ ad : Addr, ad.block < w20.heap.size → (ad.block < w.heap.size ∨ wo.heap.size ≤ ad.block) → ¬ Q2 ad.block) := Lib.hid fun ad h1 h2 h3 => by
      rw [HQ2.out] at h3
      rcases h3 with h3 | h3
      · have h4 := HI.out.lo _ (.inr h3)
        have h5 := HI.out.hi _ (.inr h3)
        omega
      · have h6 : w20.heap.size ≤ ad.block := h3
        omega
    have HN19 : Hid (¬ Q2 g19) := Lib.hid (HNQ.out ⟨g19, 0, none⟩ hg19 (.inr hge19))
    have HHE : Hid (∀ W Q, MM 54 W Q m1 m → (∀ g, W.heap.size ≤ g → Q g) → Ext w W → Rd W 2 A5 n5 c5 (r.ents.flatMap Ent.cells) → Rd W 1 A6 n6 c6 (r.proof.map (Value.int .i64)) → Calls Tryz.prog 10 #[.pointer (some ⟨m1, 0, none⟩), replyV r.what r.head A5 n5 c5 A6 n6 c6] W fun e w' => e = .returned (errR mk) ∧ MM 54 w' Q m1 m' ∧ Chg W w' Q) := Lib.hid fun W Q h1 h2 e r1 r2 => by
      have := Hear_any Q m1 m r A5 n5 c5 A6 n6 c6 W h1 h2 (HD.out.ext e) (HPW.out.ext e) r1 HR5.out.2 r2 HR6.out.2
      unfold MPost at this
      rw [hm', hmk] at this
      exact this
    have y0 := HB20.out.cell 0
    have y1 := HB20.out.cell 1
    have y2 := HB20.out.cell 2
    have y3 := HB20.out.cell 3
    have y4 := HB20.out.cell 4
    have y5 := HB20.out.cell 5
    have y6 := HB20.out.cell 6
    have HL5 : Hid (0 < n5 → ∀ ad, A5 = some ad → ¬ Q2 ad.block) := Lib.hid fun hn ad e => HNQ.out ad (HR5.out.1.blk hn ad e) (HFR.out.1 hn ad e)
    have HL6 : Hid (0 < n6 → ∀ ad, A6 = some ad → ¬ Q2 ad.block) := Lib.hid fun hn ad e => HNQ.out ad (HR6.out.1.blk hn ad e) (HFR.out.2 hn ad e)
    obtain ⟨rw_, ⟨d0, d1, d2, d3⟩, re, rp_⟩ := r
    dsimp only [replyV] at HH HHE y0 y1 y2 y3 y4 y5 y6
    clear hH hm' hmk hkey' HOK HWN HB17 HB19 HE19 hwh hfr hto HRL HCR HRR HNQ HFR HMB HQN
    go_wp2_with fail
    refine HH.out.mono ?_
    rintro _ w21 ⟨rfl, hmb, hgb⟩
    have HB21 := Lib.hid (HB20.out.chg hgb HN19.out)
    have HR51 : Hid (Rd w21 2 A5 n5 c5 (re.flatMap Ent.cells)) := Lib.hid (HR5.out.1.chg hgb HL5.out)
    have HR61 : Hid (Rd w21 1 A6 n6 c6 (rp_.map (Value.int .i64))) := Lib.hid (HR6.out.1.chg hgb HL6.out)
    have HA21 : Hid (MM 54 w21 F1 m1 m) := Lib.hid ((HI.out.a.ext HE20.out).chg hgb fun g hg hl hq => by
      rw [HQ2.out] at hq
      rcases hq with hq | hq
      · exact HI.out.apart g hg hq
      · have h6 : w20.heap.size ≤ g := hq
        omega)
    have HMB21 : Hid (MM 36 w21 (fun g => Q2 g ∧ g < w21.heap.size) m2 m') := Lib.hid (hmb.mono fun g hg hl => ⟨hg, hl⟩)
    have HE21 : Hid (Ext w w21) := Lib.hid (hgb.extW HEW.out fun g hg hp => by
      rw [HQ2.out] at hp
      have h7 := HEW.out.size
      rcases hp with hp | hp
      · have := HI.out.lo g (.inr hp); omega
      · have h6 : w20.heap.size ≤ g := hp
        omega)
    have HS21 : Hid (w20.heap.size ≤ w21.heap.size) := Lib.hid hgb.size
    clear hmb hgb HH y0 y1 y2 y3 y4 y5 y6 HB20 HR5 HR6 HL5 HL6 HN19
    -- where the mirror lies while it hears
    obtain ⟨Q1, HQ1⟩ : ∃ Q : Nat → Prop, Hid (Q = fun g => F1 g ∨ w21.heap.size ≤ g) := ⟨_, Lib.hid rfl⟩
    have HHC := Lib.hid (HHE.out w21 Q1 (HA21.out.mono fun g hg _ => by rw [HQ1.out]; exact .inl hg) (fun g hg => by rw [HQ1.out]; exact .inr hg) HE21.out HR51.out HR61.out)
    have y0 := HB21.out.cell 0
    have y1 := HB21.out.cell 1
    have y2 := HB21.out.cell 2
    have y3 := HB21.out.cell 3
    have y4 := HB21.out.cell 4
    have y5 := HB21.out.cell 5
    have y6 := HB21.out.cell 6
    clear HHE HR51 HR61 HA21
    go_wp2_with fail
    refine HHC.out.mono ?_
    rintro _ w22 ⟨rfl, hma, hga⟩
    have HMA22 : Hid (MM 54 w22 (fun g => Q1 g ∧ g < w22.heap.size) m1 m') := Lib.hid (hma.mono fun g hg hl => ⟨hg, hl⟩)
    have HMB22 : Hid (MM 36 w22 (fun g => Q2 g ∧ g < w21.heap.size) m2 m') := Lib.hid (HMB21.out.chg hga fun g hg hl hq => by
      rw [HQ1.out] at hq
      rw [HQ2.out] at hg
      obtain ⟨hg1, hg2⟩ := hg
      rcases hq with hq | hq
      · have h8 := HI.out.hi g (.inl hq)
        rcases hg1 with hg1 | hg1
        · exact HI.out.apart g hq hg1
        · have h6 : w20.heap.size ≤ g := hg1
          omega
      · have h6 : w21.heap.size ≤ g := hq
        omega)
    have HE22 : Hid (Ext w w22) := Lib.hid (hga.extW HE21.out fun g hg hp => by
      rw [HQ1.out] at hp
      have h7 := HE21.out.size
      rcases hp with hp | hp
      · have := HI.out.lo g (.inl hp); omega
      · have h6 : w21.heap.size ≤ g := hp
        omega)
    have hs22 : w21.heap.size ≤ w22.heap.size := hga.size
    have HPL : Hid (∀ W, Ext w22 W → PlI w W m1 m2 m' (fun g => Q1 g ∧ g < w22.heap.size) (fun g => Q2 g ∧ g < w21.heap.size)) := Lib.hid fun W e => ⟨HE22.out.trans e, HMA22.out.ext e, HMB22.out.ext e, fun g hg => by
      have h7 := HE21.out.size
      have h9 := HEW.out.size
      rcases hg with ⟨hg, _⟩ | ⟨hg, _⟩
      · rw [HQ1.out] at hg
        rcases hg with hg | hg
        · exact HI.out.lo g (.inl hg)
        · have h6 : w21.heap.size ≤ g := hg
          omega
      · rw [HQ2.out] at hg
        rcases hg with hg | hg
        · exact HI.out.lo g (.inr hg)
        · have h6 : w20.heap.size ≤ g := hg
          omega, fun g hg => by
      have := e.size
      rcases hg with ⟨_, hg⟩ | ⟨_, hg⟩ <;> omega, fun g h1 h2 => by
      obtain ⟨h1, _⟩ := h1
      obtain ⟨h2, h3⟩ := h2
      rw [HQ1.out] at h1
      rw [HQ2.out] at h2
      have h10 := HS21.out
      rcases h1 with h1 | h1
      · have h8 := HI.out.hi g (.inl h1)
        rcases h2 with h2 | h2
        · exact HI.out.apart g h1 h2
        · have h6 : w20.heap.size ≤ g := h2
          omega
      · have h6 : w21.heap.size ≤ g := h1
        omega⟩
    have HER : Hid (Calls Tryz.prog 6 #[errR mk, .int .i64 mk] w22 fun e w' => e = .returned (.bool true) ∧ Ext w22 w') := Lib.hid (Error_is mk w22 (HGE.out.ext HE22.out))
    clear hma hga HHC y0 y1 y2 y3 y4 y5 y6 HB21 HMB21 HE21
    go_wp2_with fail
    refine HER.out.mono ?_
    rintro _ w23 ⟨rfl, hb23⟩
    have HF23 := Lib.hid hb23
    have HA23 := Lib.hid (HMA22.out.ext hb23)
    have HB23 := Lib.hid (HMB22.out.ext hb23)
    clear hb23 HER HMA22 HMB22
    -- what there is
    obtain ⟨va, vw, hat, -⟩ := HB23.out
    have HAT := Lib.hid hat
    obtain ⟨k, hk⟩ : ∃ x, m'.own.length = x := ⟨_, rfl⟩
    have hk200 : k ≤ 200 := by rw [← hk]; exact hat.good.own_le
    have how := hat.own
    rw [hk] at how
    obtain ⟨Ao, co, rfl, hco, Ro, -⟩ := own_rd how
    have HRO := Lib.hid Ro
    have HKL := Lib.hid hk
    have hkco := Ro.2.1
    have hcos : co ≤ 9223372036854775807 := by unfold maxLen at hco; omega
    have yo : w23.cell? ⟨m2, 1, none⟩ = some (.slice Ao k co) := hat.bk.cell 1
    have HEN : Hid (∀ W, Ext w23 W → Calls Tryz.prog 12 #[.pointer (some ⟨m1, 0, none⟩)] W fun e w' => (∃ A6 c6, e = .returned (.slice A6 k c6) ∧ Rd w' 2 A6 k c6 (m'.own.flatMap Ent.cells)) ∧ Ext W w') := Lib.hid fun W e => by
      have h1 := (HA23.out.ext e).entriesC
      rw [HKL.out] at h1
      refine h1.mono fun e' w' hh => ?_
      obtain ⟨⟨v, q1, q2⟩, q3⟩ := hh
      obtain ⟨A6, c6, rfl, q4, q5, _⟩ := own_rd q2
      exact ⟨⟨A6, c6, q1, q5⟩, q3⟩
    have HSM : Hid (∀ W A6 c6, Ext w23 W → Rd W 2 A6 k c6 (m'.own.flatMap Ent.cells) → Calls Tryz.prog 11 #[.slice A6 k c6, .slice Ao k co] W fun e w' => e = .returned (.bool true) ∧ Ext W w') := Lib.hid fun W A6 c6 e h1 => Entries_yes A6 Ao k c6 co m'.own W h1 (HRO.out.ext e) (by omega)
    clear hat how Ro hk
    go_upto_region 25 with (fail)
    go_cut [19] (fun b wc => b = .bool true ∧ Ext w23 wc)
    case first =>
      as_aux_lemma =>
      go_region_held3 (fun W => W.cell? ⟨m2, 1, none⟩ = some (.slice Ao k co)) (first | exact yo | exact (HAT.out.bk.ext (by (repeat (with_reducible first | exact Ext.refl _ | assumption | refine Ext.drew ?_ | refine Ext.drewN ?_ _ | refine Ext.alloc ?_ _ | refine Ext.trans ?_ (by with_reducible assumption))))).cell 1) (first
        | (go_at_call 12; (with_reducible refine (HEN.out _ (by (repeat (with_reducible first | exact Ext.refl _ | assumption | refine Ext.drew ?_ | refine Ext.drewN ?_ _ | refine Ext.alloc ?_ _ | refine Ext.trans ?_ (by with_reducible assumption))))).mono ?_); rintro _ x5 ⟨⟨A6, c6, rfl, R6⟩, hx5⟩; have HR6 := Lib.hid R6; clear R6)
        | (go_at_call 11; (with_reducible refine (HSM.out _ _ _ (by (repeat (with_reducible first | exact Ext.refl _ | assumption | refine Ext.drew ?_ | refine Ext.drewN ?_ _ | refine Ext.alloc ?_ _ | refine Ext.trans ?_ (by with_reducible assumption)))) (HR6.out.ext (by (repeat (with_reducible first | exact Ext.refl _ | assumption | refine Ext.drew ?_ | refine Ext.drewN ?_ _ | refine Ext.alloc ?_ _ | refine Ext.trans ?_ (by with_reducible assumption)))))).mono ?_); rintro _ x6 ⟨rfl, hx6⟩)
        | fail)
      have e6 : Ext w23 x6 := by (repeat (with_reducible first | exact Ext.refl _ | assumption | refine Ext.drew ?_ | refine Ext.drewN ?_ _ | refine Ext.alloc ?_ _ | refine Ext.trans ?_ (by with_reducible assumption)))
      go_wp2_with fail
      go_meet
      exact ⟨rfl, e6⟩
    case rest =>
    as_aux_lemma =>
    obtain ⟨rfl, hb24⟩ := hcut
    obtain ⟨w24, rfl⟩ : ∃ W, W = wc := ⟨_, rfl⟩
    have HF24 := Lib.hid (HF23.out.trans hb24)
    have HA24 := Lib.hid (HA23.out.ext hb24)
    have HB24 := Lib.hid (HB23.out.ext hb24)
    have HAT24 := Lib.hid (HAT.out.ext hb24)
    clear yo hb24 HEN HSM HRO HA23 HB23 HAT HF23
    have HW1 : Hid (∀ W, Ext w24 W → Calls Tryz.prog 13 #[.pointer (some ⟨m1, 0, none⟩)] W fun e w' => e = .returned (.agg #[.int .i64 m'.want.what, .int .i64 m'.want.fr, .int .i64 m'.want.to_]) ∧ Ext W w') := Lib.hid fun W e => (HA24.out.ext e).want
    have HW2 : Hid (∀ W, Ext w24 W → Calls Tryz.prog 8 #[.pointer (some ⟨m2, 0, none⟩)] W fun e w' => e = .returned (.agg #[.int .i64 m'.want.what, .int .i64 m'.want.fr, .int .i64 m'.want.to_]) ∧ Ext W w') := Lib.hid fun W e => (HB24.out.ext e).wantR
    have HS1 : Hid (∀ W, Ext w24 W → Calls Tryz.prog 14 #[.pointer (some ⟨m1, 0, none⟩)] W fun e w' => e = .returned (.int .i64 k) ∧ W = w') := Lib.hid fun W e => by
      have := (HA24.out.ext e).sizeC
      rwa [HKL.out] at this
    have HT1 : Hid (∀ W, Ext w24 W → Calls Tryz.prog 15 #[.pointer (some ⟨m1, 0, none⟩)] W fun e w' => e = .returned (.int .i64 (rootE m'.own)) ∧ Ext W w') := Lib.hid fun W e => (HA24.out.ext e).rootC
    have HT2 : Hid (∀ W, Ext w24 W → Calls Tryz.prog 16 #[.pointer (some ⟨m2, 0, none⟩)] W fun e w' => e = .returned (.int .i64 (rootE m'.own)) ∧ Ext W w') := Lib.hid fun W e => (HB24.out.ext e).rootR
    have HH1 : Hid (∀ W, Ext w24 W → Calls Tryz.prog 17 #[.pointer (some ⟨m1, 0, none⟩)] W fun e w' => e = .returned (.agg #[.int .i64 m'.head.size, .int .i64 m'.head.root, .int .i64 m'.head.time, .int .i64 m'.head.sign]) ∧ Ext W w') := Lib.hid fun W e => (HA24.out.ext e).headC
    have x1 : ∀ x : WE w24, x.W.cell? ⟨m2, 1, none⟩ = some (.slice Ao k co) := fun x => (HAT24.out.ext x.h).bk.cell 1
    have x2 : ∀ x : WE w24, x.W.cell? ⟨m2, 2, none⟩ = some (.int .i64 m'.head.size) := fun x => (HAT24.out.ext x.h).bk.cell 2
    have x3 : ∀ x : WE w24, x.W.cell? ⟨m2, 3, none⟩ = some (.int .i64 m'.head.root) := fun x => (HAT24.out.ext x.h).bk.cell 3
    have x4 : ∀ x : WE w24, x.W.cell? ⟨m2, 4, none⟩ = some (.int .i64 m'.head.time) := fun x => (HAT24.out.ext x.h).bk.cell 4
    have x5 : ∀ x : WE w24, x.W.cell? ⟨m2, 5, none⟩ = some (.int .i64 m'.head.sign) := fun x => (HAT24.out.ext x.h).bk.cell 5
    obtain ⟨t0, ht0⟩ : ∃ v, m'.want.what = v := ⟨_, rfl⟩
    obtain ⟨t1, ht1⟩ : ∃ v, m'.want.fr = v := ⟨_, rfl⟩
    obtain ⟨t2, ht2⟩ : ∃ v, m'.want.to_ = v := ⟨_, rfl⟩
    obtain ⟨u0, hu0⟩ : ∃ v, m'.head.size = v := ⟨_, rfl⟩
    obtain ⟨v1, hu1⟩ : ∃ v, m'.head.root = v := ⟨_, rfl⟩
    obtain ⟨v2, hu2⟩ : ∃ v, m'.head.time = v := ⟨_, rfl⟩
    obtain ⟨v3, hu3⟩ : ∃ v, m'.head.sign = v := ⟨_, rfl⟩
    obtain ⟨ro, hro⟩ : ∃ v, rootE m'.own = v := ⟨_, rfl⟩
    rw [ht0, ht1, ht2] at HW1 HW2
    rw [hu0, hu1, hu2, hu3] at HH1
    rw [hu0] at x2
    rw [hu1] at x3
    rw [hu2] at x4
    rw [hu3] at x5
    rw [hro] at HT1 HT2
    have hq1 := wt_neq_self t0 t1 t2
    have hq2 := wt_guard
    have hq3 := hd_neq_self u0 v1 v2 v3
    have hq4 := hd_guard
    clear ht0 ht1 ht2 hu0 hu1 hu2 hu3 hro HA24 HB24
    go_upto_region 26 with (fail)
    (refine wp_region_ext (w0 := w24) (by kernel_rfl) (by kernel_rfl) (by (repeat (with_reducible first | exact Ext.refl _ | assumption | refine Ext.drew ?_ | refine Ext.drewN ?_ _ | refine Ext.alloc ?_ _ | refine Ext.trans ?_ (by with_reducible assumption)))) ?_; (repeat (go_big_quiet_step ((first
      | (go_at_call 13; exact quietE (HW1.out _ (WE.h _)))
      | (go_at_call 8; exact quietE (HW2.out _ (WE.h _)))
      | (go_at_call 14; exact quietS (HS1.out _ (WE.h _)))
      | (go_at_call 15; exact quietE (HT1.out _ (WE.h _)))
      | (go_at_call 16; exact quietE (HT2.out _ (WE.h _)))
      | (go_at_call 17; exact quietE (HH1.out _ (WE.h _))))))); refine wpQuiet_nil ?_)
    intro w25 hb25
    clear x1 x2 x3 x4 x5 hq1 hq2 hq3 hq4 HW1 HW2 HS1 HT1 HT2 HH1
    go_wp2_with fail
    go_roundw
    case rel => exact ⟨i + 1, m', _, _, by go_num, by omega, by omega, Lib.hid (HPL.out _ (HF24.out.trans hb25)), HKY'⟩
    case measure => simp [intOf]; omega

theorem walk (key : Int) (A : Option Addr) (n c : Nat) (es : List Ent) (A2 : Option Addr) (n2 c2 : Nat) (rs : List (RowG Int)) (A3 : Option Addr) (n3 c3 : Nat) (ps : List RpG) (w : World)
    (gk : igood key) (hl : es.length = n) (hm : c ≤ maxLen) (hr : Rd w 2 A n c (es.flatMap Ent.cells)) (ge : ∀ y ∈ es, y.good) (hz : ∀ e ∈ es, e.data.size ≤ 140737488351232) (hl2 : rs.length = n2) (hm2 : c2 ≤ maxLen) (hr2 : Rd w 1 A2 n2 c2 (rs.flatMap RowG.cells)) (g2 : ∀ y ∈ rs, RowG.good w 1 icells igood y)
    (hl3 : ps.length = n3) (hm3 : c3 ≤ maxLen) (hr3 : Rd w 7 A3 n3 c3 (ps.flatMap RpG.cells)) (g3 : ∀ y ∈ ps, RpG.good w y) (hD : DebG w) (hP : PowG w) (hg : ErrG w) :
    Calls Tryz.prog 3 #[.int .i64 key, .slice A n c, .slice A2 n2 c2, .slice A3 n3 c3] w fun e w' => e = .returned (.bool true) ∧ Ext w w' := by
  cases hk : keyI key with
  | true => exact walk_yes key A n c es A2 n2 c2 rs A3 n3 c3 ps w hk hm hr hz hm2 hr2 g2 hm3 hr3 g3 hD hP hg
  | false => exact walk_no key A n c A2 n2 c2 A3 n3 c3 w hk hg
end Go.Proofs.YtmknpehjncpekaaGreatDoor.mirrorPlays
