/- run: a line of one word. -/
import Derived.Test.YtnphbkjkeipmmaaGreatDoorJRunBegins24
import Derived.Test.YtnphbkjkeipmmaaGreatDoorJRunBegins29
import Derived.Test.YtnphbkjkeipmmaaGreatDoorJRunBegins10
import Derived.Test.YtnphbkjkeipmmaaGreatDoorJRunBegins1
import Derived.Test.YtnphbkjkeipmmaaGreatDoorJRunBegins20
namespace Go.Proofs.YtnphbkjkeipmmaaGreatDoor
open Go.RowKit Go.WideShapes
set_option linter.unusedVariables false
attribute [local go_sem ↓] Go.wp_at_zero Go.wp_at_succ

theorem tl_yes {s : ByteArray} {l : List UInt8} (h : s = ⟨l.toArray⟩) : (s.toList == l) = true ∧ s.toList = l := by
  have e : s.toList = l := by rw [Lib.toList_data, h]
  exact ⟨by rw [e]; exact beq_iff_eq.2 rfl, e⟩
theorem tl_no {s : ByteArray} {l : List UInt8} (h : ¬ s = ⟨l.toArray⟩) : (s.toList == l) = false ∧ ¬ s.toList = l := by
  have e : ¬ s.toList = l := fun e => h (ba_ext (by rw [← Lib.toList_data, e]))
  exact ⟨beq_eq_false_iff_ne.2 e, e⟩
set_option maxRecDepth 100000 in
set_option maxHeartbeats 8000000 in
theorem Alone_any (S : Nat → Prop) (db : Nat) (d : Dk) (s : ByteArray) (w : World) (h : DD 45 75 w S db d) (hS : ∀ g, w.heap.size ≤ g → S g) (hD : DebG w) (hP : PowG w) :
    Calls Tryz.prog 49 #[.pointer (some ⟨db, 0, none⟩), .string s] w fun e w' => e = .returned (outV (aloneD d s).2) ∧ DOp 45 75 w S db (aloneD d s).1 w' := by
  have HD := Lib.hid h
  by_cases h1 : s = wWant
  · have hA : aloneD d s = (d, wantT d.m.want, some 0) := if_pos h1
    rw [hA]
    obtain ⟨c1, c1'⟩ := tl_yes (l := [119, 97, 110, 116]) h1
    obtain ⟨a1, a2, a3, a4, a5, a6⟩ := want_bd h.good.m
    obtain ⟨ve, mb, va, vw, k1, k2⟩ := h
    have HMW : Hid (∀ W, Ext w W → Calls Tryz.prog 74 #[.pointer (some ⟨mb, 0, none⟩)] W fun e w' => e = .returned d.m.want.val ∧ Ext W w') := Lib.hid fun W e => MWant_any mb va vw d.m W (k1.ext e).mir
    have y1 : w.cell? ⟨db, 1, none⟩ = some (.pointer (some ⟨mb, 0, none⟩)) := k1.bk.cell 1
    obtain ⟨wt, hwt⟩ : ∃ x, d.m.want = x := ⟨_, rfl⟩
    rw [hwt] at HMW a1 a2 a3 a4 a5 a6 ⊢
    obtain ⟨t1, t2, t3⟩ := wt
    dsimp only at a1 a2 a3 a4 a5 a6
    obtain ⟨t1, rfl⟩ := Int.eq_ofNat_of_zero_le a1
    obtain ⟨t2, rfl⟩ := Int.eq_ofNat_of_zero_le a3
    obtain ⟨t3, rfl⟩ := Int.eq_ofNat_of_zero_le a5
    simp only [Wt.val] at HMW
    have HI : Hid (∀ t : Nat, t ≤ 1000000 → ∀ W, Ext w W → Calls Tryz.prog 75 #[.int .i64 t] W fun e w' => e = .returned (.string (digB t)) ∧ Ext W w') := Lib.hid fun t ht W e => by
      have := ItoaI_any (t : Int) W (by omega) (by omega) (hP.ext e)
      rw [digB_itoa] at this
      exact this
    have HI1 := Lib.hid (HI.out t1 (by omega))
    have HI2 := Lib.hid (HI.out t2 (by omega))
    have HI3 := Lib.hid (HI.out t3 (by omega))
    have s1 := digB_small 2 t1 (by show _ < 1000; omega)
    have s2 := digB_small 2 t2 (by show _ < 1000; omega)
    have s3 := digB_small 2 t3 (by show _ < 1000; omega)
    have HWT : Hid (wantT ⟨(t1 : Int), (t2 : Int), (t3 : Int)⟩ = digB t1 ++ ⟨#[32]⟩ ++ digB t2 ++ ⟨#[32]⟩ ++ digB t3) := rfl
    obtain ⟨x1, hx1⟩ : ∃ x, digB t1 = x := ⟨_, rfl⟩
    obtain ⟨x2, hx2⟩ : ∃ x, digB t2 = x := ⟨_, rfl⟩
    obtain ⟨x3, hx3⟩ : ∃ x, digB t3 = x := ⟨_, rfl⟩
    rw [hx1] at HI1 s1 HWT
    rw [hx2] at HI2 s2 HWT
    rw [hx3] at HI3 s3 HWT
    rw [HWT.out]
    clear hA h1 k1 k2 hwt a1 a2 a3 a4 a5 a6 HI HWT hx1 hx2 hx3 hD hP hS
    go_enter Tryz.func49, Tryz.ntmps49
    go_wp2_with fail
    refine (HMW.out _ (Ext.refl _)).mono ?_
    rintro _ w1 ⟨rfl, hb1⟩
    have B2 := Bk.at_ w1 60 #[.int .i64 t1, .int .i64 t2, .int .i64 t3] w1.heap.size rfl
    have e2 : Ext w (w1.alloc (.cells #[.int .i64 t1, .int .i64 t2, .int .i64 t3] 60)) := hb1.alloc _
    go_upto_region 4 with (fail)
    generalize w1.alloc (.cells #[.int .i64 t1, .int .i64 t2, .int .i64 t3] 60) = W2 at *
    generalize w1.heap.size = g2 at *
    have HE2 := Lib.hid e2
    have HB2 := Lib.hid B2
    have z0 : ∀ x : WE W2, x.W.cell? ⟨g2, 0, none⟩ = some (.int .i64 t1) := fun x => (HB2.out.ext x.h).cell 0
    have z1 : ∀ x : WE W2, x.W.cell? ⟨g2, 1, none⟩ = some (.int .i64 t2) := fun x => (HB2.out.ext x.h).cell 1
    have z2 : ∀ x : WE W2, x.W.cell? ⟨g2, 2, none⟩ = some (.int .i64 t3) := fun x => (HB2.out.ext x.h).cell 2
    clear y1 hb1 B2 e2 HMW
    (refine wp_region_ext (w0 := W2) (by kernel_rfl) (by kernel_rfl) (by (repeat (with_reducible first | exact Ext.refl _ | assumption | refine Ext.drew ?_ | refine Ext.drewN ?_ _ | refine Ext.alloc ?_ _ | refine Ext.trans ?_ (by with_reducible assumption)))) ?_; (repeat (go_big_quiet_step ((go_at_call 75; first | exact quietE (HI1.out _ (HE2.out.trans (WE.h _))) | exact quietE (HI2.out _ (HE2.out.trans (WE.h _))) | exact quietE (HI3.out _ (HE2.out.trans (WE.h _))))))); refine wpQuiet_nil ?_)
    intro w5 hb5
    go_wp2_with fail
    go_ret2
    exact ⟨rfl, DOp.stay HD.out (HE2.out.trans hb5)⟩
  obtain ⟨c1, c1'⟩ := tl_no (l := [119, 97, 110, 116]) h1
  have step : ∀ b : Bool, (s.toList == [98, 97, 100]) = b → (s = wStep ∨ s = badT) → aloneD d s = stepD d b → Calls Tryz.prog 49 #[.pointer (some ⟨db, 0, none⟩), .string s] w fun e w' => e = .returned (outV (stepD d b).2) ∧ DOp 45 75 w S db (stepD d b).1 w' := fun b hb hs _ => by
    have HST := Lib.hid (Step_any S db d b w h hS hD hP)
    have hq : ((s.toList == [115, 116, 101, 112]) = true) ∨ ((s.toList == [115, 116, 101, 112]) = false ∧ b = true) := by
      rcases hs with e | e
      · exact .inl (tl_yes (l := [115, 116, 101, 112]) e).1
      · refine .inr ⟨(tl_no (l := [115, 116, 101, 112]) (by rw [e]; decide)).1, ?_⟩
        rw [← hb]
        exact (tl_yes (l := [98, 97, 100]) e).1
    clear h hS hD hP hs h1
    rcases hq with hq | ⟨hq, rfl⟩
    · go_enter Tryz.func49, Tryz.ntmps49
      go_wp2_with fail
      refine HST.out.mono ?_
      unfold outV
      rintro _ w1 ⟨rfl, hop⟩
      go_wp2_with fail
      go_ret2
      exact ⟨rfl, hop⟩
    · go_enter Tryz.func49, Tryz.ntmps49
      go_wp2_with fail
      refine HST.out.mono ?_
      unfold outV
      rintro _ w1 ⟨rfl, hop⟩
      go_wp2_with fail
      go_ret2
      exact ⟨rfl, hop⟩
  by_cases h2 : s = wStep
  · have hA : aloneD d s = stepD d false := by unfold aloneD; rw [if_neg h1, if_pos h2]
    rw [hA]
    exact step false (tl_no (l := [98, 97, 100]) (by rw [h2]; decide)).1 (.inl h2) hA
  by_cases h3 : s = badT
  · have hA : aloneD d s = stepD d true := by unfold aloneD; rw [if_neg h1, if_neg h2, if_pos h3]
    rw [hA]
    exact step true (tl_yes (l := [98, 97, 100]) h3).1 (.inr h3) hA
  obtain ⟨c2, c2'⟩ := tl_no (l := [115, 116, 101, 112]) h2
  obtain ⟨c3, c3'⟩ := tl_no (l := [98, 97, 100]) h3
  clear step
  by_cases h4 : s = wState
  · have hA : aloneD d s = (d, stateT d.m, some 0) := by unfold aloneD; rw [if_neg h1, if_neg h2, if_neg h3, if_pos h4]
    rw [hA]
    obtain ⟨c4, c4'⟩ := tl_yes (l := [115, 116, 97, 116, 101]) h4
    have hgm := h.good.m
    have hol := hgm.own_le
    have hvl : vld (rootE d.m.own) = true := by rw [rootE_ok hgm.own]; exact vld_ofL (leafs_of_ents hgm.own).2 (by have := (leafs_of_ents hgm.own).1; omega)
    obtain ⟨ve, mb, va, vw, k1, k2⟩ := h
    have HSZ : Hid (∀ W, Ext w W → Calls Tryz.prog 77 #[.pointer (some ⟨mb, 0, none⟩)] W fun e w' => e = .returned (.int .i64 (d.m.own.length : Nat)) ∧ W = w') := Lib.hid fun W e => MSize_any mb va vw d.m W (k1.ext e).mir
    have HRT : Hid (∀ W, Ext w W → Calls Tryz.prog 79 #[.pointer (some ⟨mb, 0, none⟩)] W fun e w' => e = .returned (.int .i64 (rootE d.m.own)) ∧ Ext W w') := Lib.hid fun W e => MRoot_any mb va vw d.m W (k1.ext e).mir
    have z1 : ∀ x : WE w, x.W.cell? ⟨db, 1, none⟩ = some (.pointer (some ⟨mb, 0, none⟩)) := fun x => (k1.ext x.h).bk.cell 1
    have HTX : Hid (∀ W, Ext w W → Calls Tryz.prog 78 #[.int .i64 (rootE d.m.own)] W fun e w' => e = .returned (.string (hexT (rootE d.m.own).toNat)) ∧ Ext W w') := Lib.hid fun W e => MText_sum hvl W (hD.ext e)
    have s2 := hexT_size (rootE d.m.own).toNat
    have HI : Hid (∀ W, Ext w W → Calls Tryz.prog 75 #[.int .i64 (d.m.own.length : Nat)] W fun e w' => e = .returned (.string (digB d.m.own.length)) ∧ Ext W w') := Lib.hid fun W e => by
      have := ItoaI_any (d.m.own.length : Int) W (by omega) (by omega) (hP.ext e)
      rw [digB_itoa] at this
      exact this
    have s1 := digB_small 2 d.m.own.length (by show _ < 1000; omega)
    have HST : Hid (stateT d.m = digB d.m.own.length ++ ⟨#[32]⟩ ++ hexT (rootE d.m.own).toNat) := rfl
    obtain ⟨x2, hx2⟩ : ∃ x, hexT (rootE d.m.own).toNat = x := ⟨_, rfl⟩
    obtain ⟨ro, hro⟩ : ∃ x, rootE d.m.own = x := ⟨_, rfl⟩
    rw [hx2] at HTX s2 HST
    rw [hro] at HTX HRT
    obtain ⟨x1, hx1⟩ : ∃ x, digB d.m.own.length = x := ⟨_, rfl⟩
    rw [hx1] at HI s1 HST
    obtain ⟨k, hk⟩ : ∃ x, d.m.own.length = x := ⟨_, rfl⟩
    rw [hk] at HI HSZ
    rw [HST.out]
    clear hA h1 h2 h3 h4 k1 k2 HST hx1 hx2 hro hk hgm hvl hol hD hP hS
    go_enter Tryz.func49, Tryz.ntmps49
    go_wp2_with fail
    (refine wp_region_ext (w0 := w) (by kernel_rfl) (by kernel_rfl) (by (repeat (with_reducible first | exact Ext.refl _ | assumption | refine Ext.drew ?_ | refine Ext.drewN ?_ _ | refine Ext.alloc ?_ _ | refine Ext.trans ?_ (by with_reducible assumption)))) ?_; (repeat (go_big_quiet_step ((first
      | (go_at_call 75; exact quietE (HI.out _ (WE.h _)))
      | (go_at_call 77; exact quietS (HSZ.out _ (WE.h _)))
      | (go_at_call 79; exact quietE (HRT.out _ (WE.h _)))
      | (go_at_call 78; exact quietE (HTX.out _ (WE.h _))))))); refine wpQuiet_nil ?_)
    intro w5 hb5
    go_wp2_with fail
    go_ret2
    exact ⟨rfl, DOp.stay HD.out hb5⟩
  · have hA : aloneD d s = (d, noT, none) := by unfold aloneD; rw [if_neg h1, if_neg h2, if_neg h3, if_neg h4]
    rw [hA]
    obtain ⟨c4, c4'⟩ := tl_no (l := [115, 116, 97, 116, 101]) h4
    clear hA h1 h2 h3 h4 h hS hD hP
    go_enter Tryz.func49, Tryz.ntmps49
    go_wp2_with fail
    go_ret2
    exact ⟨rfl, DOp.stay HD.out (Ext.refl _)⟩
end Go.Proofs.YtnphbkjkeipmmaaGreatDoor

/- errors.As at a target of type *unread, where the error is an unread or an api.Errno. -/
namespace Go.Proofs.YtnphbkjkeipmmaaGreatDoor
open Go.RowKit Go.Extern.Stop Go.Stop Go.Extern
set_option linter.unusedVariables false

theorem as_valueOfPU (t : Addr) (w : World) : (ReflectliteValue.unpack (.iface 82 (.pointer (some t)))).run Tryz.prog w
    = .ok (.agg #[.pointer (some ⟨9, 82, none⟩), .pointer (some ⟨w.heap.size, 0, none⟩), .int .u64 150]) (w.alloc (.cells #[.pointer (some t)] 82)) := by kernel_rfl
theorem as_typePU (a : Addr) (w : World) : (ReflectliteValue.methodAny (ReflectliteValue.valueError "reflectlite.Value.Type" 0) (fun t _ _ _ => ReflectliteType.toType t) #[.agg #[.pointer (some ⟨9, 82, none⟩), .pointer (some a), .int .u64 150]]).run Tryz.prog w
    = .ok (.iface 140 (.agg #[.pointer (some ⟨9, 82, none⟩)])) w := by kernel_rfl
theorem as_kindPU (w : World) : ((ReflectliteType.abiMethod fun t => (fun a : Nat => Value.int IntKind.u8 (a : Int)) <$> Rtype.kind t) #[.pointer (some ⟨9, 82, none⟩)]).run Tryz.prog w = .ok (.int .u8 22) w := by kernel_rfl
theorem as_kindEU (w : World) : ((ReflectliteType.abiMethod fun t => (fun a : Nat => Value.int IntKind.u8 (a : Int)) <$> Rtype.kind t) #[.pointer (some ⟨9, 80, none⟩)]).run Tryz.prog w = .ok (.int .u8 25) w := by kernel_rfl
theorem as_partsPU (a : Addr) (w : World) : (ReflectliteValue.parts (.agg #[.pointer (some ⟨9, 82, none⟩), .pointer (some a), .int .u64 150])).run Tryz.prog w = .ok (some (82, a, 150)) w := by kernel_rfl
theorem as_isNilU (a p : Addr) (W : World) (ha : W.cell? a = some (.pointer (some p))) :
    (ReflectliteValue.method (ReflectliteValue.valueError "reflectlite.Value.IsNil" 0) ReflectliteValue.isNil #[.agg #[.pointer (some ⟨9, 82, none⟩), .pointer (some a), .int .u64 150]]).run Tryz.prog W = .ok (.bool false) W := by
  rw [rlm]
  simp only [Sem.run_bind, as_partsPU, Result.andThen]
  simp [ReflectliteValue.isNil, loadVar, isAgg, underlying, Tryz.underlying82, ha, Result.andThen]
theorem as_elemPU (w : World) : (ReflectliteType.method ReflectliteType.elem #[.agg #[.pointer (some ⟨9, 82, none⟩)]]).run Tryz.prog w = .ok (.iface 140 (.agg #[.pointer (some ⟨9, 80, none⟩)])) w := by kernel_rfl
theorem as_implEU (w : World) : (ReflectliteType.relation "Implements" ReflectliteType.implements_ #[.agg #[.pointer (some ⟨9, 80, none⟩)], .iface 140 (.agg #[.pointer (some ⟨9, 40, none⟩)])]).run Tryz.prog w = .ok (.bool true) w := by kernel_rfl
theorem as_typeOfEU (v : Value) (w : World) : (ReflectliteType.typeOf #[.iface 80 v]).run Tryz.prog w = .ok (.iface 140 (.agg #[.pointer (some ⟨9, 80, none⟩)])) w := by kernel_rfl
theorem as_assignEU (w : World) : (ReflectliteType.relation "AssignableTo" ReflectliteType.assignableTo #[.agg #[.pointer (some ⟨9, 80, none⟩)], .iface 140 (.agg #[.pointer (some ⟨9, 80, none⟩)])]).run Tryz.prog w = .ok (.bool true) w := by kernel_rfl
theorem as_valueOfEU (k : Int) (w : World) : (ReflectliteValue.unpack (.iface 80 (.agg #[.iface 73 (.int .i64 k)]))).run Tryz.prog w
    = .ok (.agg #[.pointer (some ⟨9, 80, none⟩), .pointer (some ⟨w.heap.size, 0, none⟩), .int .u64 153]) (w.alloc (.cells #[.iface 73 (.int .i64 k)] 80)) := by kernel_rfl
theorem as_elemOfPU (w : World) : (Rtype.elem? 82).run Tryz.prog w = .ok (some 80) w := by kernel_rfl
theorem as_mkEU (p : Addr) (w : World) : (ReflectliteValue.mk 80 p ReflectliteValue.flagAddr).run Tryz.prog w = .ok (.agg #[.pointer (some ⟨9, 80, none⟩), .pointer (some p), .int .u64 409]) w := by kernel_rfl
theorem as_elemVU (a p : Addr) (W : World) (ha : W.cell? a = some (.pointer (some p))) :
    (ReflectliteValue.method (ReflectliteValue.valueError "reflectlite.Value.Elem" 0) ReflectliteValue.elem #[.agg #[.pointer (some ⟨9, 82, none⟩), .pointer (some a), .int .u64 150]]).run Tryz.prog W
      = .ok (.agg #[.pointer (some ⟨9, 80, none⟩), .pointer (some p), .int .u64 409]) W := by
  rw [rlm]
  simp only [Sem.run_bind, as_partsPU, Result.andThen]
  simp [ReflectliteValue.elem, loadVar, isAgg, underlying, Tryz.underlying82, ha, Result.andThen, as_elemOfPU, as_mkEU]
theorem as_partsEaU (a : Addr) (w : World) : (ReflectliteValue.parts (.agg #[.pointer (some ⟨9, 80, none⟩), .pointer (some a), .int .u64 409])).run Tryz.prog w = .ok (some (80, a, 409)) w := by kernel_rfl
theorem as_partsEU (a : Addr) (w : World) : (ReflectliteValue.parts (.agg #[.pointer (some ⟨9, 80, none⟩), .pointer (some a), .int .u64 153])).run Tryz.prog w = .ok (some (80, a, 153)) w := by kernel_rfl
theorem as_directU (w : World) : (Rtype.directlyAssignable 80 80).run Tryz.prog w = .ok true w := by kernel_rfl
theorem as_setU (ta b : Addr) (k : Int) (old : Value) (W : World) (hb : W.cell? b = some (.iface 73 (.int .i64 k))) (ht : W.cell? ta = some old) (hf : W.frozen? ta = false) :
    (ReflectliteValue.set #[.agg #[.pointer (some ⟨9, 80, none⟩), .pointer (some ta), .int .u64 409], .agg #[.pointer (some ⟨9, 80, none⟩), .pointer (some b), .int .u64 153]]).run Tryz.prog W
      = .ok (.tuple #[]) (W.setCell ta (.iface 73 (.int .i64 k))) := by
  have hl : (loadCells b 1).run Tryz.prog W = .ok #[.iface 73 (.int .i64 k)] W := run_loadCells_list (P := Tryz.prog) W b [.iface 73 (.int .i64 k)] (fun j u hj => by
    match j, hj with
    | 0, hj =>
      simp at hj
      subst hj
      simpa [Addr.add] using hb)
  rw [rls]
  simp only [Sem.run_bind, as_partsEaU, as_partsEU, Result.andThen]
  simp [ReflectliteValue.flagAddr, loadVar, isAgg, underlying, Tryz.underlying80, hl, Result.andThen, as_directU, storeVar, Value.cells, storeCells, Addr.add]
  rw [run_store Tryz.prog W ta _ _ (by rfl)]
  simp [ht, hf]
set_option maxHeartbeats 4000000 in
theorem as_hitU (k : Int) (t : Addr) (old : Value) (w : World) (hg : ErrG w) (ht0 : w.cell? t = some old) (hf0 : w.frozen? t = false) :
    Calls Tryz.prog 32 #[.iface 80 (.agg #[.iface 73 (.int .i64 k)]), .iface 82 (.pointer (some t))] w fun ev w' => ev = .returned (.bool true) ∧ w' = ((((w.alloc (.cells #[.pointer (some t)] 82)).alloc (.cells #[.pointer (some ⟨9, 82, none⟩), .pointer (some ⟨w.heap.size, 0, none⟩), .int .u64 150] 108)).alloc (.cells #[.pointer (some ⟨9, 82, none⟩), .pointer (some ⟨w.heap.size, 0, none⟩), .int .u64 150] 108)).alloc (.cells #[.iface 73 (.int .i64 k)] 80)).setCell t (.iface 73 (.int .i64 k)) := by
  have hlt := hg.lt
  unfold ErrG at hg
  have h6 := @run_callFunc_extern Tryz.prog 53 _ (fun args => ReflectliteValue.unpack (args.getD 0 (.tuple #[]))) Tryz.func53 (by kernel_rfl) (by kernel_rfl) (by kernel_rfl) (by kernel_rfl)
  have h7 := @run_callFunc_extern Tryz.prog 54 _ (ReflectliteValue.methodAny (ReflectliteValue.valueError "reflectlite.Value.Type" 0) (fun t _ _ _ => ReflectliteType.toType t)) Tryz.func54 (by kernel_rfl) (by kernel_rfl) (by kernel_rfl) (by kernel_rfl)
  have h8 := @run_callFunc_extern Tryz.prog 55 _ (ReflectliteValue.method (ReflectliteValue.valueError "reflectlite.Value.IsNil" 0) ReflectliteValue.isNil) Tryz.func55 (by kernel_rfl) (by kernel_rfl) (by kernel_rfl) (by kernel_rfl)
  have h27 := @run_callFunc_extern Tryz.prog 202 _ (ReflectliteType.abiMethod fun t => do pure (.int .u8 (← Rtype.kind t))) Tryz.func202 (by kernel_rfl) (by kernel_rfl) (by kernel_rfl) (by kernel_rfl)
  have h37 := @run_callFunc_extern Tryz.prog 212 _ (ReflectliteType.method ReflectliteType.elem) Tryz.func212 (by kernel_rfl) (by kernel_rfl) (by kernel_rfl) (by kernel_rfl)
  have h38 := @run_callFunc_extern Tryz.prog 213 _ (ReflectliteType.relation "Implements" ReflectliteType.implements_) Tryz.func213 (by kernel_rfl) (by kernel_rfl) (by kernel_rfl) (by kernel_rfl)
  have h10 := @run_callFunc_extern Tryz.prog 92 _ ReflectliteType.typeOf Tryz.func92 (by kernel_rfl) (by kernel_rfl) (by kernel_rfl) (by kernel_rfl)
  have h35 := @run_callFunc_extern Tryz.prog 210 _ (ReflectliteType.relation "AssignableTo" ReflectliteType.assignableTo) Tryz.func210 (by kernel_rfl) (by kernel_rfl) (by kernel_rfl) (by kernel_rfl)
  have h11 := @run_callFunc_extern Tryz.prog 93 _ (ReflectliteValue.method (ReflectliteValue.valueError "reflectlite.Value.Elem" 0) ReflectliteValue.elem) Tryz.func93 (by kernel_rfl) (by kernel_rfl) (by kernel_rfl) (by kernel_rfl)
  have h12 := @run_callFunc_extern Tryz.prog 94 _ ReflectliteValue.set Tryz.func94 (by kernel_rfl) (by kernel_rfl) (by kernel_rfl) (by kernel_rfl)
  have tO := as_typeOfEU
  have mA := as_mAssign
  have a25 := as_assignEU
  have v25 := as_valueOfEU
  have f6 := as_valueOfPU
  have f7 := as_typePU
  have mK := as_mKind
  have mE := as_mElem
  have mI := as_mImpl
  have k27 := as_kindPU
  have k25 := as_kindEU
  have e27 := as_elemPU
  have i25 := as_implEU
  have n8 := as_isNilU ⟨w.heap.size, 0, none⟩ t ((w.alloc (.cells #[.pointer (some t)] 82)).alloc (.cells #[.pointer (some ⟨9, 82, none⟩), .pointer (some ⟨w.heap.size, 0, none⟩), .int .u64 150] 108)) (by simp)
  have hg2 : ((w.alloc (.cells #[.pointer (some t)] 82)).alloc (.cells #[.pointer (some ⟨9, 82, none⟩), .pointer (some ⟨w.heap.size, 0, none⟩), .int .u64 150] 108)).cell? ⟨0, 0, none⟩ = some (.iface 140 (.agg #[.pointer (some ⟨9, 40, none⟩)])) := by
    rw [World.cell?_alloc_lt _ _ ⟨0, 0, none⟩ (by simp), World.cell?_alloc_lt _ _ ⟨0, 0, none⟩ hlt]; exact hg
  have htl : t.block < w.heap.size := by
    rcases Nat.lt_or_ge t.block w.heap.size with h | h
    · exact h
    · simp [World.cell?, Array.getElem?_eq_none h] at ht0
  have el := as_elemVU ⟨w.heap.size, 0, none⟩ t (((w.alloc (.cells #[.pointer (some t)] 82)).alloc (.cells #[.pointer (some ⟨9, 82, none⟩), .pointer (some ⟨w.heap.size, 0, none⟩), .int .u64 150] 108)).alloc (.cells #[.pointer (some ⟨9, 82, none⟩), .pointer (some ⟨w.heap.size, 0, none⟩), .int .u64 150] 108)) (by rw [World.cell?_alloc_lt _ _ ⟨w.heap.size, 0, none⟩ (by simp; omega)]; simp)
  have st := as_setU t ⟨w.heap.size + 1 + 1 + 1, 0, none⟩ k old ((((w.alloc (.cells #[.pointer (some t)] 82)).alloc (.cells #[.pointer (some ⟨9, 82, none⟩), .pointer (some ⟨w.heap.size, 0, none⟩), .int .u64 150] 108)).alloc (.cells #[.pointer (some ⟨9, 82, none⟩), .pointer (some ⟨w.heap.size, 0, none⟩), .int .u64 150] 108)).alloc (.cells #[.iface 73 (.int .i64 k)] 80))
    (by rw [World.cell?_alloc_at _ _ _ _ (by simp)]; rfl)
    (by rw [World.cell?_alloc_lt _ _ t (by simp; omega), World.cell?_alloc_lt _ _ t (by simp; omega), World.cell?_alloc_lt _ _ t (by simp; omega), World.cell?_alloc_lt _ _ t htl]; exact ht0)
    (by rw [World.frozen?_alloc_old _ _ t (by simp; omega), World.frozen?_alloc_old _ _ t (by simp; omega), World.frozen?_alloc_old _ _ t (by simp; omega), World.frozen?_alloc_old _ _ t (Nat.ne_of_lt htl)]; exact hf0)
  go_enter Tryz.func32, Tryz.ntmps32
  go_wp2
  refine wp_loop_rounds 1 ?_
  rw [rounds_succ]
  go_wp2
  go_ret
  exact ⟨rfl, rfl⟩

/-! ### an Errno is no unread -/
theorem as_assignEM (w : World) : (ReflectliteType.relation "AssignableTo" ReflectliteType.assignableTo #[.agg #[.pointer (some ⟨9, 73, none⟩)], .iface 140 (.agg #[.pointer (some ⟨9, 80, none⟩)])]).run Tryz.prog w = .ok (.bool false) w := by kernel_rfl
theorem as_noAs (v : Value) (xT : TypeId) (w : World) : (Instr.typeAssert (.iface 73 v) xT 145 true).run Tryz.prog w = .ok (.tuple #[.nilIface, .bool false]) w := run_typeAssert_lacksB Tryz.underlying145 (by kernel_rfl) (by kernel_rfl) v xT w
theorem as_noUn (v : Value) (xT : TypeId) (w : World) : (Instr.typeAssert (.iface 73 v) xT 148 true).run Tryz.prog w = .ok (.tuple #[.nilIface, .bool false]) w := run_typeAssert_lacksB Tryz.underlying148 (by kernel_rfl) (by kernel_rfl) v xT w
theorem as_noUns (v : Value) (xT : TypeId) (w : World) : (Instr.typeAssert (.iface 73 v) xT 150 true).run Tryz.prog w = .ok (.tuple #[.nilIface, .bool false]) w := run_typeAssert_lacksB Tryz.underlying150 (by kernel_rfl) (by kernel_rfl) v xT w
set_option maxHeartbeats 4000000 in
theorem as_missU (k : Int) (t : Addr) (w : World) (hg : ErrG w) (ht0 : t.block < w.heap.size) :
    Calls Tryz.prog 32 #[.iface 73 (.int .i64 k), .iface 82 (.pointer (some t))] w fun ev w' => ev = .returned (.bool false) ∧ Ext w w' := by
  have hlt := hg.lt
  unfold ErrG at hg
  have h6 := @run_callFunc_extern Tryz.prog 53 _ (fun args => ReflectliteValue.unpack (args.getD 0 (.tuple #[]))) Tryz.func53 (by kernel_rfl) (by kernel_rfl) (by kernel_rfl) (by kernel_rfl)
  have h7 := @run_callFunc_extern Tryz.prog 54 _ (ReflectliteValue.methodAny (ReflectliteValue.valueError "reflectlite.Value.Type" 0) (fun t _ _ _ => ReflectliteType.toType t)) Tryz.func54 (by kernel_rfl) (by kernel_rfl) (by kernel_rfl) (by kernel_rfl)
  have h8 := @run_callFunc_extern Tryz.prog 55 _ (ReflectliteValue.method (ReflectliteValue.valueError "reflectlite.Value.IsNil" 0) ReflectliteValue.isNil) Tryz.func55 (by kernel_rfl) (by kernel_rfl) (by kernel_rfl) (by kernel_rfl)
  have h27 := @run_callFunc_extern Tryz.prog 202 _ (ReflectliteType.abiMethod fun t => do pure (.int .u8 (← Rtype.kind t))) Tryz.func202 (by kernel_rfl) (by kernel_rfl) (by kernel_rfl) (by kernel_rfl)
  have h37 := @run_callFunc_extern Tryz.prog 212 _ (ReflectliteType.method ReflectliteType.elem) Tryz.func212 (by kernel_rfl) (by kernel_rfl) (by kernel_rfl) (by kernel_rfl)
  have h38 := @run_callFunc_extern Tryz.prog 213 _ (ReflectliteType.relation "Implements" ReflectliteType.implements_) Tryz.func213 (by kernel_rfl) (by kernel_rfl) (by kernel_rfl) (by kernel_rfl)
  have h10 := @run_callFunc_extern Tryz.prog 92 _ ReflectliteType.typeOf Tryz.func92 (by kernel_rfl) (by kernel_rfl) (by kernel_rfl) (by kernel_rfl)
  have h35 := @run_callFunc_extern Tryz.prog 210 _ (ReflectliteType.relation "AssignableTo" ReflectliteType.assignableTo) Tryz.func210 (by kernel_rfl) (by kernel_rfl) (by kernel_rfl) (by kernel_rfl)
  have h11 := @run_callFunc_extern Tryz.prog 93 _ (ReflectliteValue.method (ReflectliteValue.valueError "reflectlite.Value.Elem" 0) ReflectliteValue.elem) Tryz.func93 (by kernel_rfl) (by kernel_rfl) (by kernel_rfl) (by kernel_rfl)
  have h12 := @run_callFunc_extern Tryz.prog 94 _ ReflectliteValue.set Tryz.func94 (by kernel_rfl) (by kernel_rfl) (by kernel_rfl) (by kernel_rfl)
  have tO := as_typeOfE
  have mA := as_mAssign
  have a25 := as_assignEM
  have f6 := as_valueOfPU
  have f7 := as_typePU
  have mK := as_mKind
  have mE := as_mElem
  have mI := as_mImpl
  have k27 := as_kindPU
  have k25 := as_kindEU
  have e27 := as_elemPU
  have i25 := as_implEU
  have n8 := as_isNilU ⟨w.heap.size, 0, none⟩ t ((w.alloc (.cells #[.pointer (some t)] 82)).alloc (.cells #[.pointer (some ⟨9, 82, none⟩), .pointer (some ⟨w.heap.size, 0, none⟩), .int .u64 150] 108)) (by simp)
  have hg2 : ((w.alloc (.cells #[.pointer (some t)] 82)).alloc (.cells #[.pointer (some ⟨9, 82, none⟩), .pointer (some ⟨w.heap.size, 0, none⟩), .int .u64 150] 108)).cell? ⟨0, 0, none⟩ = some (.iface 140 (.agg #[.pointer (some ⟨9, 40, none⟩)])) := by
    rw [World.cell?_alloc_lt _ _ ⟨0, 0, none⟩ (by simp), World.cell?_alloc_lt _ _ ⟨0, 0, none⟩ hlt]; exact hg
  have nA := as_noAs
  have nU := as_noUn
  have nV := as_noUns
  go_enter Tryz.func32, Tryz.ntmps32
  go_wp2
  refine wp_loop_rounds 1 ?_
  rw [rounds_succ]
  go_wp2
  go_ret
  exact ⟨rfl, by (repeat (with_reducible first | exact Ext.refl _ | assumption | refine Ext.drew ?_ | refine Ext.drewN ?_ _ | refine Ext.alloc ?_ _ | refine Ext.trans ?_ (by with_reducible assumption)))⟩
theorem as_nilU (t : Value) (w : World) :
    Calls Tryz.prog 32 #[.nilIface, t] w fun e w' => e = .returned (.bool false) ∧ w' = w := by
  go_enter Tryz.func32, Tryz.ntmps32
  go_wp2
  go_ret
  exact ⟨rfl, rfl⟩
end Go.Proofs.YtnphbkjkeipmmaaGreatDoor

/- run: a line; what is answered. -/
namespace Go.Proofs.YtnphbkjkeipmmaaGreatDoor
open Go.RowKit Go.WideShapes
set_option linter.unusedVariables false
attribute [local go_sem ↓] Go.wp_at_zero Go.wp_at_succ

set_option maxRecDepth 100000 in
set_option maxHeartbeats 8000000 in
theorem Line_any (S : Nat → Prop) (db : Nat) (d : Dk) (s : ByteArray) (w : World) (h : DD 45 75 w S db d) (hS : ∀ g, w.heap.size ≤ g → S g) (hs : s.size ≤ 3000) (hD : DebG w) (hP : PowG w) (hG : StrG w) (hM : MaxG w) :
    Calls Tryz.prog 31 #[.pointer (some ⟨db, 0, none⟩), .string s] w fun e w' => e = .returned (outV (lineD d s).2) ∧ DOp 45 75 w S db (lineD d s).1 w' := by
  obtain ⟨hz1, hz2⟩ := word_size s
  have hC := SpCut_any s w (by omega) hM
  have hL0 : ∀ z, wordV s = z → lineD d s = if z.2.2 = false then aloneD d s
      else if z.1 = wAdd then addD d z.2.1
      else if z.1 = wAsk then (d, (ansR d.es 7 0 z.2.1).1, some (ansR d.es 7 0 z.2.1).2)
      else if z.1 = wKey then (d, bitsR z.2.1, some (keyK z.2.1))
      else (d, noT, none) := fun z hz => by subst hz; rfl
  obtain ⟨z, hz⟩ : ∃ z, wordV s = z := ⟨_, rfl⟩
  have hL := hL0 z hz
  rw [hz] at hz1 hz2 hC
  obtain ⟨x, t, b⟩ := z
  dsimp only at hz1 hz2 hC hL
  have HC := Lib.hid hC
  have HD := Lib.hid h
  clear hL0 hC hz
  cases b with
  | false =>
    rw [if_pos rfl] at hL
    rw [hL]
    have HAL := Lib.hid fun W (e : Ext w W) => Alone_any S db d s W (h.ext e) (fun g hg => hS g (Nat.le_trans e.size hg)) (hD.ext e) (hP.ext e)
    clear h hS hD hP hG hM hL
    go_enter Tryz.func31, Tryz.ntmps31
    go_wp2_with fail
    refine HC.out.mono ?_
    rintro _ w1 ⟨rfl, hb1⟩
    go_wp2_with fail
    refine (HAL.out _ hb1).mono ?_
    unfold outV
    rintro _ w2 ⟨rfl, hop⟩
    have HOP := Lib.hid (hop.from_ hb1)
    clear hop
    go_wp2_with fail
    go_ret2
    exact ⟨rfl, HOP.out⟩
  | true =>
    rw [if_neg (by decide)] at hL
    by_cases h1 : x = wAdd
    · rw [if_pos h1] at hL
      rw [hL]
      obtain ⟨c1, c1'⟩ := tl_yes (l := [97, 100, 100]) h1
      have HAD := Lib.hid fun W (e : Ext w W) => FAdd_any S db d t W (h.ext e) (fun g hg => hS g (Nat.le_trans e.size hg)) (by omega) (hM.ext e) (hG.ext e) (hP.ext e)
      clear h hS hD hP hG hM hL h1
      go_enter Tryz.func31, Tryz.ntmps31
      go_wp2_with fail
      refine HC.out.mono ?_
      rintro _ w1 ⟨rfl, hb1⟩
      go_wp2_with fail
      refine (HAD.out _ hb1).mono ?_
      unfold outV
      rintro _ w2 ⟨rfl, hop⟩
      have HOP := Lib.hid (hop.from_ hb1)
      clear hop
      go_wp2_with fail
      go_ret2
      exact ⟨rfl, HOP.out⟩
    rw [if_neg h1] at hL
    obtain ⟨c1, c1'⟩ := tl_no (l := [97, 100, 100]) h1
    by_cases h2 : x = wAsk
    · rw [if_pos h2] at hL
      rw [hL]
      obtain ⟨c2, c2'⟩ := tl_yes (l := [97, 115, 107]) h2
      obtain ⟨ve, mb, va, vw, k1, k2⟩ := h
      obtain ⟨A, c, hva, hc1, hrd, -⟩ := own_rd k1.own
      obtain ⟨n, hn⟩ : ∃ n, d.es.length = n := ⟨_, rfl⟩
      rw [hn] at hva hrd
      have HSA : Hid (∀ W, Ext w W → Calls Tryz.prog 51 #[.slice A n c, .int .i64 7, .int .i64 0, .string t] W fun e w' => e = .returned (.tuple #[.string (ansR d.es 7 0 t).1, errR (ansR d.es 7 0 t).2]) ∧ Ext W w') := Lib.hid fun W e => Answer_any A n c d.es 7 0 t W (hrd.ext e) hc1 (by omega) (hD.ext e) (hP.ext e) (hG.ext e) (hM.ext e)
      obtain ⟨az, haz⟩ : ∃ z, ansR d.es 7 0 t = z := ⟨_, rfl⟩
      rw [haz] at HSA ⊢
      obtain ⟨ax, ak⟩ := az
      dsimp only at HSA ⊢
      have HVA := Lib.hid hva
      have K1 := Lib.hid k1
      clear hL h1 h2 haz hva hc1 hrd hn k1 k2 hS hD hP hG hM
      go_enter Tryz.func31, Tryz.ntmps31
      go_wp2_with fail
      refine HC.out.mono ?_
      rintro _ w1 ⟨rfl, hb1⟩
      have y0 : w1.cell? ⟨db, 0, none⟩ = some (.slice A n c) := by rw [← HVA.out]; exact (K1.out.ext hb1).bk.cell 0
      go_wp2_with fail
      refine (HSA.out _ hb1).mono ?_
      rintro _ w2 ⟨rfl, hb2⟩
      go_wp2_with fail
      go_ret2
      exact ⟨rfl, DOp.stay HD.out (hb1.trans hb2)⟩
    rw [if_neg h2] at hL
    obtain ⟨c2, c2'⟩ := tl_no (l := [97, 115, 107]) h2
    by_cases h3 : x = wKey
    · rw [if_pos h3] at hL
      rw [hL]
      obtain ⟨c3, c3'⟩ := tl_yes (l := [107, 101, 121]) h3
      have HBT := Lib.hid fun W => Bits_any t W
      clear hL h1 h2 h3 h hS hD hP hG hM
      go_enter Tryz.func31, Tryz.ntmps31
      go_wp2_with fail
      refine HC.out.mono ?_
      rintro _ w1 ⟨rfl, hb1⟩
      go_wp2_with fail
      refine (HBT.out _).mono ?_
      rintro _ w2 ⟨rfl, hb2⟩
      go_wp2_with fail
      go_ret2
      exact ⟨rfl, DOp.stay HD.out (hb1.trans hb2)⟩
    · rw [if_neg h3] at hL
      rw [hL]
      obtain ⟨c3, c3'⟩ := tl_no (l := [107, 101, 121]) h3
      clear hL h1 h2 h3 h hS hD hP hG hM
      go_enter Tryz.func31, Tryz.ntmps31
      go_wp2_with fail
      refine HC.out.mono ?_
      rintro _ w1 ⟨rfl, hb1⟩
      go_wp2_with fail
      go_ret2
      exact ⟨rfl, DOp.stay HD.out hb1⟩
/-! ### errors.As, as it is asked here -/
theorem as_hit2 (k : Int) (t : Addr) (old : Value) (w w0 : World) (hg : ErrG w) (ht0 : w.cell? t = some old) (hf0 : w.frozen? t = false) (h0 : Ext w0 w) (hb : w0.heap.size ≤ t.block) :
    Calls Tryz.prog 32 #[.iface 73 (.int .i64 k), .iface 83 (.pointer (some t))] w fun ev w' => ev = .returned (.bool true) ∧ w'.cell? t = some (.int .i64 k) ∧ Ext w0 w' := by
  have hl : t.block < w.heap.size := by
    rcases Nat.lt_or_ge t.block w.heap.size with h | h
    · exact h
    · simp [World.cell?, Array.getElem?_eq_none h] at ht0
  refine (as_hit k t old w hg ht0 hf0).mono fun ev w' ⟨e1, e2⟩ => ⟨e1, ?_, ?_⟩
  · rw [e2]
    exact World.cell?_setCell_same' _ _ _ (by rw [World.cell?_alloc_lt _ _ t (by simp; omega), World.cell?_alloc_lt _ _ t (by simp; omega), World.cell?_alloc_lt _ _ t (by simp; omega), World.cell?_alloc_lt _ _ t hl, ht0]; rfl)
  · rw [e2]
    exact ((((h0.alloc _).alloc _).alloc _).alloc _).setCell hb _
theorem as_hitU2 (k : Int) (t : Addr) (old : Value) (w w0 : World) (hg : ErrG w) (ht0 : w.cell? t = some old) (hf0 : w.frozen? t = false) (h0 : Ext w0 w) (hb : w0.heap.size ≤ t.block) :
    Calls Tryz.prog 32 #[.iface 80 (.agg #[.iface 73 (.int .i64 k)]), .iface 82 (.pointer (some t))] w fun ev w' => ev = .returned (.bool true) ∧ Ext w0 w' := by
  refine (as_hitU k t old w hg ht0 hf0).mono fun ev w' ⟨e1, e2⟩ => ⟨e1, ?_⟩
  rw [e2]
  exact ((((h0.alloc _).alloc _).alloc _).alloc _).setCell hb _
set_option maxRecDepth 100000 in
set_option maxHeartbeats 8000000 in
theorem DAns_any (S : Nat → Prop) (db : Nat) (d : Dk) (s : ByteArray) (w : World) (h : DD 45 75 w S db d) (hS : ∀ g, w.heap.size ≤ g → S g) (hs : s.size ≤ 3000) (hD : DebG w) (hP : PowG w) (hG : StrG w) (hM : MaxG w) (hg : ErrG w) (hS0 : ¬ S 0) :
    Calls Tryz.prog 13 #[.pointer (some ⟨db, 0, none⟩), .string s] w fun e w' => e = .returned (.string (ansD d s)) ∧ DOp 45 75 w S db (nextD d s) w' := by
  have HL := Lib.hid (Line_any S db d s w h hS hs hD hP hG hM)
  have hbd := (line_bd h.good s).1
  have hA : ansD d s = outT (lineD d s).2 := rfl
  have hN : nextD d s = (lineD d s).1 := rfl
  rw [hA, hN]
  have HG : Hid (∀ W, Chg w W S → ErrG W) := Lib.hid fun W k => by
    have hlt := hg.lt
    unfold ErrG at hg ⊢
    refine Eq.trans (World.cell?_of_block ?_) hg
    exact k.block 0 hlt hS0
  obtain ⟨r, hr⟩ : ∃ r, lineD d s = r := ⟨_, rfl⟩
  rw [hr] at HL hbd ⊢
  obtain ⟨d', o, c⟩ := r
  dsimp only at HL hbd ⊢
  unfold outV outT at *
  dsimp only at HL ⊢
  clear h hS hs hD hP hG hM hg hr hA hN hS0
  cases c with
  | none =>
    simp only [errU] at HL
    go_enter Tryz.func13, Tryz.ntmps13
    go_wp2_with fail
    refine HL.out.mono ?_
    rintro _ w1 ⟨rfl, hop⟩
    have HOP := Lib.hid hop
    have E3 : Ext w1 ((w1.alloc (.cells #[.nilIface] 80)).alloc (.cells #[.int .i64 0] 73)) := ((Ext.refl w1).alloc _).alloc _
    have hg3 := (HG.out _ hop.2).ext E3
    have t0 : ((w1.alloc (.cells #[.nilIface] 80)).alloc (.cells #[.int .i64 0] 73)).cell? ⟨w1.heap.size, 0, none⟩ = some .nilIface := ((Bk.at_ w1 80 #[.nilIface] w1.heap.size rfl).alloc _).cell 0
    have f0 := ((Bk.at_ w1 80 #[.nilIface] w1.heap.size rfl).alloc (.cells #[.int .i64 0] 73)).frozen 0
    clear hop
    go_wp2_with fail
    refine (as_hitU2 2 ⟨w1.heap.size, 0, none⟩ .nilIface _ w1 hg3 t0 f0 E3 (Nat.le_refl _)).mono ?_
    rintro _ w5 ⟨rfl, hb5⟩
    go_wp2_with fail
    go_ret
    exact ⟨rfl, HOP.out.ext hb5⟩
  | some k =>
    have hk := hbd k rfl
    unfold cbd at hk
    clear hbd
    dsimp only
    simp only [errU] at HL
    by_cases h0 : k = 0
    · subst h0
      rw [errR_0] at HL
      rw [if_pos rfl]
      go_enter Tryz.func13, Tryz.ntmps13
      go_wp2_with fail
      refine HL.out.mono ?_
      rintro _ w1 ⟨rfl, hop⟩
      have HOP := Lib.hid hop
      clear hop
      have E3 : Ext w1 ((w1.alloc (.cells #[.nilIface] 80)).alloc (.cells #[.int .i64 0] 73)) := ((Ext.refl w1).alloc _).alloc _
      have HNI := Lib.hid as_nilU
      go_wp2_with fail
      refine (HNI.out _ _).mono ?_
      rintro _ W5 ⟨rfl, e5⟩
      subst e5
      go_wp2_with fail
      refine (HNI.out _ _).mono ?_
      rintro _ W6 ⟨rfl, e6⟩
      subst e6
      go_wp2_with fail
      go_ret
      exact ⟨rfl, HOP.out.ext E3⟩
    · rw [errR_ne h0] at HL
      rw [if_neg h0]
      simp only [errV] at HL
      have HEN := Lib.hid fun W => EName_any k W (by omega)
      go_enter Tryz.func13, Tryz.ntmps13
      go_wp2_with fail
      refine HL.out.mono ?_
      rintro _ w1 ⟨rfl, hop⟩
      have HOP := Lib.hid hop
      have E3 : Ext w1 ((w1.alloc (.cells #[.nilIface] 80)).alloc (.cells #[.int .i64 0] 73)) := ((Ext.refl w1).alloc _).alloc _
      have hg3 := (HG.out _ hop.2).ext E3
      have B4 := Bk.at_ (w1.alloc (.cells #[.nilIface] 80)) 73 #[.int .i64 0] (w1.heap.size + 1) (by simp)
      clear hop
      go_wp2_with fail
      refine (as_missU k ⟨w1.heap.size, 0, none⟩ _ hg3 (by simp; omega)).mono ?_
      rintro _ w5 ⟨rfl, hb5⟩
      have E5 := E3.trans hb5
      have B5 := B4.ext hb5
      have hg5 := hg3.ext hb5
      have HE5 := Lib.hid E5
      have t5 := B5.cell 0
      have f5 := B5.frozen 0
      clear E3 hg3 B4 hb5 E5 B5
      go_wp2_with fail
      refine (as_hit2 k ⟨w1.heap.size + 1, 0, none⟩ (.int .i64 0) _ w1 hg5 t5 f5 HE5.out (by show _ ≤ w1.heap.size + 1; omega)).mono ?_
      rintro _ w6 ⟨rfl, hc6, hb6⟩
      go_wp2_with fail
      refine (HEN.out _).mono ?_
      rintro _ w7 ⟨rfl, hb7⟩
      go_wp2_with fail
      go_ret
      exact ⟨rfl, HOP.out.ext (hb6.trans hb7)⟩
end Go.Proofs.YtnphbkjkeipmmaaGreatDoor
