/- witsame.Error at its own number. -/
import Derived.Test.YtfccbjfiionepaaGreatDoorJServeTells2
import Derived.Test.YtfccbjfiionepaaGreatDoorJServeTells22
import Derived.Test.YtfccbjfiionepaaGreatDoorJServeTells10
import Derived.BigQuiet
namespace Go.Proofs.YtfccbjfiionepaaGreatDoor
open Go.RowKit
theorem errIs_eq (k : Int) : errIs k k = true := by unfold errIs; simp
theorem Error_is (k : Int) (w : World) (hg : ErrG w) : Calls Tryz.prog 31 #[errR k, .int .i64 k] w fun e w' => e = .returned (.bool true) ∧ Ext w w' :=
  (Error_any k k w hg).mono fun e w' hh => ⟨hh.1.trans (by rw [errIs_eq]), hh.2⟩
end Go.Proofs.YtfccbjfiionepaaGreatDoor

/- ServeTells: the walk. -/
namespace Go.Proofs.YtfccbjfiionepaaGreatDoor.serveTells
open Go.RowKit Go.WideShapes
set_option linter.unusedVariables false
attribute [local go_sem ↓] Go.wp_at_zero Go.wp_at_succ

theorem beq_self (s : ByteArray) : (s.toList == s.toList) = true := beq_iff_eq.2 rfl
set_option maxRecDepth 100000 in
set_option maxHeartbeats 8000000 in
theorem walk (A : Option Addr) (n c : Nat) (es : List Ent) (key now : Int) (ask : ByteArray) (w : World)
    (hl : es.length = n) (hm : c ≤ maxLen) (hr : Rd w 2 A n c (es.flatMap Ent.cells)) (ge : ∀ y ∈ es, y.good) (gk : igood key) (gn : igood now) (hz : ask.size ≤ 1048576) (hS : StrG w) (hD : DebG w) (hP : PowG w) (hM : MaxG w) (hg : ErrG w) :
    Calls Tryz.prog 5 #[.slice A n c, .int .i64 key, .int .i64 now, .string ask] w fun e w' => e = .returned (.bool true) ∧ Ext w w' := by
  obtain ⟨hE, hN, hG0⟩ := errR_rules
  have hES := hd_eql_self
  have hGd := hd_guard
  have hAN : ∀ W, Ext w W → Calls Tryz.prog 22 #[.slice A n c, .int .i64 key, .int .i64 now, .string ask] W fun e w' => e = .returned (.tuple #[.string (ansR es key now ask).1, errR (ansR es key now ask).2]) ∧ Ext W w' := fun W e => Answer_any A n c es key now ask W (hr.ext e) hm hz (hD.ext e) (hP.ext e) (hS.ext e) (hM.ext e)
  have hRA : ∀ W, Ext w W → Calls Tryz.prog 30 #[.slice A n c, .int .i64 key, .int .i64 now, .string ask] W fun e w' => e = .returned (.tuple #[.string (ansR es key now ask).1, .int .i64 (ansR es key now ask).2]) ∧ Ext W w' := fun W e => RSAnswer_any A n c es key now ask W (hr.ext e) hm hz
  have hSH : ∀ W, Ext w W → Calls Tryz.prog 14 #[.slice A n c, .int .i64 key, .int .i64 now] W fun e w' => e = .returned (.tuple #[(shH es key now).val, errR (shK es key now)]) ∧ Ext W w' := fun W e => SHead_any A n c es key now W (hr.ext e) hm (hD.ext e) (hP.ext e)
  have hLH : ∀ W, Ext w W → Calls Tryz.prog 32 #[.slice A n c, .int .i64 key, .int .i64 now] W fun e w' => e = .returned (.tuple #[(shH es key now).val, .int .i64 (shK es key now)]) ∧ Ext W w' := fun W e => LogHead_any A n c es key now W (hr.ext e) hm
  have HER := Lib.hid fun k W (e : Ext w W) => Error_is k W (hg.ext e)
  obtain ⟨az, haz⟩ : ∃ z, ansR es key now ask = z := ⟨_, rfl⟩
  rw [haz] at hAN hRA
  obtain ⟨sv, sk⟩ := az
  dsimp only at hAN hRA
  obtain ⟨hk, hhk⟩ : ∃ z, shK es key now = z := ⟨_, rfl⟩
  obtain ⟨hh, hhh⟩ : ∃ z, shH es key now = z := ⟨_, rfl⟩
  rw [hhk, hhh] at hSH hLH
  obtain ⟨h0, h1, h2, h3⟩ := hh
  simp only [Hd.val] at hSH hLH
  have HAN := Lib.hid hAN
  have HRA := Lib.hid hRA
  have HSH := Lib.hid hSH
  have HLH := Lib.hid hLH
  clear hl hm hr ge gk gn hz hS hD hP hM hg hAN hRA hSH hLH haz hhk hhh
  go_enter Tryz.func5, Tryz.ntmps5
  go_wp2_with fail
  refine (HRA.out _ (Ext.refl _)).mono ?_
  rintro _ w1 ⟨rfl, hb1⟩
  have E1 := Lib.hid hb1
  clear hb1 HRA
  go_wp2_with fail
  refine (HAN.out _ E1.out).mono ?_
  rintro _ w2 ⟨rfl, hb2⟩
  have E2 := Lib.hid (E1.out.trans hb2)
  clear hb2 HAN E1
  go_wp2_with fail
  refine (HER.out sk _ E2.out).mono ?_
  rintro _ w3 ⟨rfl, hb3⟩
  have E3 := Lib.hid (E2.out.trans hb3)
  clear hb3 E2
  go_wp2_with fail
  refine (HLH.out _ E3.out).mono ?_
  rintro _ w4 ⟨rfl, hb4⟩
  have X4 := Bk.at_ w4 40 #[.int .i64 h0, .int .i64 h1, .int .i64 h2, .int .i64 h3] w4.heap.size rfl
  have e4 : Ext w3 (w4.alloc (.cells #[.int .i64 h0, .int .i64 h1, .int .i64 h2, .int .i64 h3] 40)) := hb4.alloc _
  go_upto_region 5 with (fail)
  generalize w4.alloc (.cells #[.int .i64 h0, .int .i64 h1, .int .i64 h2, .int .i64 h3] 40) = W4 at *
  generalize w4.heap.size = g14 at *
  have HX4 := Lib.hid X4
  have E4 := Lib.hid (E3.out.trans e4)
  clear hb4 X4 e4 E3 HLH
  go_wp2_with fail
  refine (HSH.out _ E4.out).mono ?_
  rintro _ w5 ⟨rfl, hb5⟩
  have Y5 := Bk.at_ w5 40 #[.int .i64 h0, .int .i64 h1, .int .i64 h2, .int .i64 h3] w5.heap.size rfl
  have e5 : Ext W4 (w5.alloc (.cells #[.int .i64 h0, .int .i64 h1, .int .i64 h2, .int .i64 h3] 40)) := hb5.alloc _
  go_upto_region 6 with (fail)
  generalize w5.alloc (.cells #[.int .i64 h0, .int .i64 h1, .int .i64 h2, .int .i64 h3] 40) = W5 at *
  generalize w5.heap.size = g15 at *
  have HX5 := Lib.hid (HX4.out.ext e5)
  have HY5 := Lib.hid Y5
  have E5 := Lib.hid (E4.out.trans e5)
  clear hb5 Y5 e5 E4 HX4 HSH
  go_wp2_with fail
  refine (HER.out hk _ E5.out).mono ?_
  rintro _ w6 ⟨rfl, hb6⟩
  have HX6 := Lib.hid (HX5.out.ext hb6)
  have HY6 := Lib.hid (HY5.out.ext hb6)
  have E6 := Lib.hid (E5.out.trans hb6)
  have hss := beq_self sv
  clear hb6 HX5 HY5 E5 HER
  have q0 : w6.cell? ⟨g14, 0, none⟩ = some (.int .i64 h0) := HX6.out.cell 0
  have q1 : w6.cell? ⟨g14, 1, none⟩ = some (.int .i64 h1) := HX6.out.cell 1
  have q2 : w6.cell? ⟨g14, 2, none⟩ = some (.int .i64 h2) := HX6.out.cell 2
  have q3 : w6.cell? ⟨g14, 3, none⟩ = some (.int .i64 h3) := HX6.out.cell 3
  have r0 : w6.cell? ⟨g15, 0, none⟩ = some (.int .i64 h0) := HY6.out.cell 0
  have r1 : w6.cell? ⟨g15, 1, none⟩ = some (.int .i64 h1) := HY6.out.cell 1
  have r2 : w6.cell? ⟨g15, 2, none⟩ = some (.int .i64 h2) := HY6.out.cell 2
  have r3 : w6.cell? ⟨g15, 3, none⟩ = some (.int .i64 h3) := HY6.out.cell 3
  go_wp2_with fail
  go_ret
  exact ⟨rfl, E6.out⟩
end Go.Proofs.YtfccbjfiionepaaGreatDoor.serveTells
