/- The references' entries: one taken off bytes. -/
import Derived.Test.YtgfkalhpefjenaaDoorRE1
import Derived.Test.YtgfkalhpefjenaaDoorFirst
import Derived.Lib.SlicesS
import Derived.BigRegion
import Derived.Handy
namespace Go.Proofs.YtgfkalhpefjenaaDoor
open Go.RowKit Go.WideShapes
set_option linter.unusedVariables false
attribute [local go_sem ↓] Go.wp_at_zero Go.wp_at_succ

theorem w_s1 {a b : Nat} (ha : a < 256) (hb : b < 256) : wrap64 ((a : Int) * 65536 + (b : Int) * 256) = (a : Int) * 65536 + (b : Int) * 256 := by unfold wrap64; omega
theorem w_s2 {a b c : Nat} (ha : a < 256) (hb : b < 256) (hc : c < 256) : wrap64 ((a : Int) * 65536 + (b : Int) * 256 + (c : Int)) = (a : Int) * 65536 + (b : Int) * 256 + (c : Int) := by unfold wrap64; omega

set_option maxHeartbeats 1000000 in
set_option maxRecDepth 100000 in
theorem rtake_long (s : ByteArray) (w : World) (hs : s.size ≤ maxLen) (h0 : 0 < s.size) (h1 : 1 < s.size) (h2 : 2 < s.size) (h3 : 3 < s.size) (b0 b1 b2 b3 : UInt8) (g0 : s[0]'h0 = b0) (g1 : s[1]'h1 = b1) (g2 : s[2]'h2 = b2) (g3 : s[3]'h3 = b3) (hl : 4 + b3.toNat ≤ s.size) (tm : Int) (dt rs : ByteArray) (ok : Bool) (ht : Hid (tm = (b0.toNat : Int) * 65536 + (b1.toNat : Int) * 256 + (b2.toNat : Int))) (hd : Hid (dt = s.extract 4 (4 + b3.toNat))) (hrs : Hid (rs = s.extract (4 + b3.toNat) s.size)) (hok : Hid (ok = decide (Ent.ok ⟨tm, dt⟩)))  :
    Calls Tryd.prog 104 #[.string s] w fun e w' => e = .returned (.tuple #[.agg #[.int .i64 tm, .string dt], .string rs, .bool ok]) ∧ Ext w w' := by
  unfold maxLen at hs
  have k0 := w_small (u8_lt b0).1 (u8_lt b0).2
  have k1 := w_small (u8_lt b1).1 (u8_lt b1).2
  have k2 := w_small (u8_lt b2).1 (u8_lt b2).2
  have k3 := w_small (u8_lt b3).1 (u8_lt b3).2
  have l3 := (u8_lt b3).2
  have q1 := four_le (u8_lt b3).1
  have q2 := four_le' hl
  have q3 := w_four (u8_lt b3).1 (u8_lt b3).2
  have q4 := i_four (u8_lt b3).1 (u8_lt b3).2
  have q5 := four_0 (u8_lt b3).1
  have q6 := four_m hl
  have i1 : (1 : Int) < (s.size : Int) := lt_int h1
  have i2 : (2 : Int) < (s.size : Int) := lt_int h2
  have i0 : (0 : Int) < (s.size : Int) := lt_int h0
  have HV : Hid (wrap64 (wrap64 (wrap64 ((b0.toNat : Int) * 65536) + wrap64 ((b1.toNat : Int) * 256)) + (b2.toNat : Int)) = tm) := by
    show _ = _
    rw [w_hi (u8_ltN b0), w_mid (u8_ltN b1), w_s1 (u8_ltN b0) (u8_ltN b1), w_s2 (u8_ltN b0) (u8_ltN b1) (u8_ltN b2), ht.out]
  go_enter Tryd.func104, Tryd.ntmps104
  go_wp2_with fail
  go_region
  rw [HV.out, ← hd.out]
  have B1 : Bk ((w.alloc (.cells #[.int .i64 0, .string ⟨#[]⟩] 52)).alloc (.cells #[.int .i64 tm, .string dt] 52)).drew (w.heap.size + 1) 52 #[.int .i64 tm, .string dt] := Bk.at_ _ _ _ _ (by simp)
  have E1 : Ext w ((w.alloc (.cells #[.int .i64 0, .string ⟨#[]⟩] 52)).alloc (.cells #[.int .i64 tm, .string dt] 52)).drew := by (repeat (with_reducible first | exact Ext.refl _ | assumption | refine Ext.drew ?_ | refine Ext.drewN ?_ _ | refine Ext.alloc ?_ _ | refine Ext.trans ?_ (by with_reducible assumption)))
  have B0 : Bk ((w.alloc (.cells #[.int .i64 0, .string ⟨#[]⟩] 52)).alloc (.cells #[.int .i64 tm, .string dt] 52)).drew w.heap.size 52 #[.int .i64 0, .string ⟨#[]⟩] := (Bk.at_ _ _ _ _ rfl).alloc _
  generalize ((w.alloc (.cells #[.int .i64 0, .string ⟨#[]⟩] 52)).alloc (.cells #[.int .i64 tm, .string dt] 52)).drew = w5 at *
  have c0 := B1.cell 0
  have c1 := B1.cell 1
  have d0 := B0.cell 0
  have d1 := B0.cell 1
  have HB1 := Lib.hid B1
  have HB0 := Lib.hid B0
  clear HV k0 k1 k2 k3
  cases ok
  · have hn : ¬ Ent.ok ⟨tm, dt⟩ := of_decide_eq_false hok.out.symm
    obtain ⟨kk, HEK⟩ : ∃ kk, Hid (encK ⟨tm, dt⟩ = kk) := ⟨_, rfl⟩
    have hkk : (kk == 0) = false := by
      rw [← HEK.out]
      simp only [beq_eq_false_iff_ne, ne_eq]
      exact fun h => hn (encK_zero.1 h)
    clear hok hn
    go_wp2_with fail
    go_region_held3 (fun W => W.cell? ⟨w.heap.size + 1, 0, none⟩ = some (.int .i64 tm) ∧ W.cell? ⟨w.heap.size + 1, 1, none⟩ = some (.string dt)) (first | exact ⟨c0, c1⟩ | exact ⟨(((HB1.out.drew.ext hb6).far (by simp) _).far (by simp) _).cell 0, (((HB1.out.drew.ext hb6).far (by simp) _).far (by simp) _).cell 1⟩ | exact ⟨(HB1.out.ext (by (repeat (with_reducible first | exact Ext.refl _ | assumption | refine Ext.drew ?_ | refine Ext.drewN ?_ _ | refine Ext.alloc ?_ _ | refine Ext.trans ?_ (by with_reducible assumption))))).cell 0, (HB1.out.ext (by (repeat (with_reducible first | exact Ext.refl _ | assumption | refine Ext.drew ?_ | refine Ext.drewN ?_ _ | refine Ext.alloc ?_ _ | refine Ext.trans ?_ (by with_reducible assumption))))).cell 1⟩) (first
      | (go_at_call 34; (with_reducible refine (REntry_any tm dt _).mono ?_); rw [HEK.out]; rintro e w6 ⟨rfl, hb6⟩; have B6 := (HB0.out.drew).ext hb6; have p0 := B6.cell 0; have p1 := B6.cell 1; have p2 := B6.frozen 0; have p3 := B6.frozen 1)
      | fail)
    have B7 := (B6.set_ 0 (.int .i64 tm)).set_ 1 (.string dt)
    have e0 : ((w6.setCell ⟨w.heap.size, 0, none⟩ (.int .i64 tm)).setCell ⟨w.heap.size, 1, none⟩ (.string dt)).cell? ⟨w.heap.size, 0, none⟩ = some (.int .i64 tm) := (B7.cell 0).trans rfl
    have e1 : ((w6.setCell ⟨w.heap.size, 0, none⟩ (.int .i64 tm)).setCell ⟨w.heap.size, 1, none⟩ (.string dt)).cell? ⟨w.heap.size, 1, none⟩ = some (.string dt) := (B7.cell 1).trans rfl
    have HRS : Hid (s.extract (4 + (b3.toNat : Int)).toNat s.size = rs) := by show _ = _; rw [hrs.out, show (4 + (b3.toNat : Int)).toNat = 4 + b3.toNat by omega]
    have E7 : Ext w ((w6.setCell ⟨w.heap.size, 0, none⟩ (.int .i64 tm)).setCell ⟨w.heap.size, 1, none⟩ (.string dt)) := by
      have hb6' : Ext w w6 := E1.trans (Ext.trans (Ext.drew (Ext.refl _)) hb6)
      exact (hb6'.setCell (p := ⟨w.heap.size, 0, none⟩) (Nat.le_refl _) _).setCell (p := ⟨w.heap.size, 1, none⟩) (Nat.le_refl _) _
    clear p0 p1 c0 c1 d0 d1
    go_wp2_with fail
    rw [HRS.out]
    refine bodyPost_ret (by simp [results, Tryd.results104, go_sem, e0, e1]; try rfl) rfl ?_
    exact ⟨rfl, E7⟩
  · have hy : Ent.ok ⟨tm, dt⟩ := of_decide_eq_true hok.out.symm
    have HEK : Hid (encK ⟨tm, dt⟩ = 0) := encK_zero.2 hy
    clear hok hy
    go_wp2_with fail
    go_region_held3 (fun W => W.cell? ⟨w.heap.size + 1, 0, none⟩ = some (.int .i64 tm) ∧ W.cell? ⟨w.heap.size + 1, 1, none⟩ = some (.string dt)) (first | exact ⟨c0, c1⟩ | exact ⟨(((HB1.out.drew.ext hb6).far (by simp) _).far (by simp) _).cell 0, (((HB1.out.drew.ext hb6).far (by simp) _).far (by simp) _).cell 1⟩ | exact ⟨(HB1.out.ext (by (repeat (with_reducible first | exact Ext.refl _ | assumption | refine Ext.drew ?_ | refine Ext.drewN ?_ _ | refine Ext.alloc ?_ _ | refine Ext.trans ?_ (by with_reducible assumption))))).cell 0, (HB1.out.ext (by (repeat (with_reducible first | exact Ext.refl _ | assumption | refine Ext.drew ?_ | refine Ext.drewN ?_ _ | refine Ext.alloc ?_ _ | refine Ext.trans ?_ (by with_reducible assumption))))).cell 1⟩) (first
      | (go_at_call 34; (with_reducible refine (REntry_any tm dt _).mono ?_); rw [HEK.out]; rintro e w6 ⟨rfl, hb6⟩; have B6 := (HB0.out.drew).ext hb6; have p0 := B6.cell 0; have p1 := B6.cell 1; have p2 := B6.frozen 0; have p3 := B6.frozen 1)
      | fail)
    have B7 := (B6.set_ 0 (.int .i64 tm)).set_ 1 (.string dt)
    have e0 : ((w6.setCell ⟨w.heap.size, 0, none⟩ (.int .i64 tm)).setCell ⟨w.heap.size, 1, none⟩ (.string dt)).cell? ⟨w.heap.size, 0, none⟩ = some (.int .i64 tm) := (B7.cell 0).trans rfl
    have e1 : ((w6.setCell ⟨w.heap.size, 0, none⟩ (.int .i64 tm)).setCell ⟨w.heap.size, 1, none⟩ (.string dt)).cell? ⟨w.heap.size, 1, none⟩ = some (.string dt) := (B7.cell 1).trans rfl
    have HRS : Hid (s.extract (4 + (b3.toNat : Int)).toNat s.size = rs) := by show _ = _; rw [hrs.out, show (4 + (b3.toNat : Int)).toNat = 4 + b3.toNat by omega]
    have E7 : Ext w ((w6.setCell ⟨w.heap.size, 0, none⟩ (.int .i64 tm)).setCell ⟨w.heap.size, 1, none⟩ (.string dt)) := by
      have hb6' : Ext w w6 := E1.trans (Ext.trans (Ext.drew (Ext.refl _)) hb6)
      exact (hb6'.setCell (p := ⟨w.heap.size, 0, none⟩) (Nat.le_refl _) _).setCell (p := ⟨w.heap.size, 1, none⟩) (Nat.le_refl _) _
    clear p0 p1 c0 c1 d0 d1
    go_wp2_with fail
    rw [HRS.out]
    refine bodyPost_ret (by simp [results, Tryd.results104, go_sem, e0, e1]; try rfl) rfl ?_
    exact ⟨rfl, E7⟩

set_option maxRecDepth 100000 in
theorem rtake_short (s : ByteArray) (w : World) (hs : s.size ≤ maxLen) (h : ¬ (4 ≤ s.size ∧ 4 + (byB s 3).toNat ≤ s.size)) :
    Calls Tryd.prog 104 #[.string s] w fun e w' => e = .returned (.tuple #[.agg #[.int .i64 0, .string ⟨#[]⟩], .string ⟨#[]⟩, .bool false]) ∧ Ext w w' := by
  unfold maxLen at hs
  by_cases h4 : s.size < 4
  · clear h
    go_enter Tryd.func104, Tryd.ntmps104
    go_wp2_with fail
    refine bodyPost_ret (by simp [results, Tryd.results104, go_sem]; try rfl) rfl ?_
    exact ⟨rfl, (Ext.alloc (Ext.refl w) _)⟩
  · have h3 : 3 < s.size := by omega
    have g3 := byB_get s 3 h3
    have hl : s.size < 4 + (byB s 3).toNat := by omega
    generalize byB s 3 = b3 at *
    clear h
    have k3 := w_small (u8_lt b3).1 (u8_lt b3).2
    have l3 := (u8_lt b3).2
    have q3 := w_four (u8_lt b3).1 (u8_lt b3).2
    have q4 := i_four (u8_lt b3).1 (u8_lt b3).2
    have q5 := lt_four hl
    go_enter Tryd.func104, Tryd.ntmps104
    go_wp2_with fail
    refine bodyPost_ret (by simp [results, Tryd.results104, go_sem]; try rfl) rfl ?_
    exact ⟨rfl, (Ext.alloc (Ext.refl w) _)⟩

/-- what 'first' answers -/
theorem rtake_some (s : ByteArray) (e : Ent) (r : ByteArray) (w : World) (hs : s.size ≤ maxLen) (h : takeE s = some (e, r)) :
    Calls Tryd.prog 104 #[.string s] w fun x w' => x = .returned (.tuple #[.agg #[.int .i64 e.time, .string e.data], .string r, .bool true]) ∧ Ext w w' := by
  by_cases hc : 4 ≤ s.size ∧ 4 + (byB s 3).toNat ≤ s.size ∧ (entOf s).ok
  · unfold takeE at h
    rw [if_pos hc] at h
    simp only [Option.some.injEq, Prod.mk.injEq] at h
    obtain ⟨rfl, rfl⟩ := h
    obtain ⟨h1, h2, h3⟩ := hc
    exact rtake_long s w hs (by omega) (by omega) (by omega) (by omega) _ _ _ _ (byB_get s 0 (by omega)) (byB_get s 1 (by omega)) (byB_get s 2 (by omega)) (byB_get s 3 (by omega)) h2 _ _ _ true (Lib.hid rfl) (Lib.hid rfl) (Lib.hid rfl) (Lib.hid (decide_eq_true h3).symm)
  · rw [takeE_none hc] at h; cases h
theorem rtake_none (s : ByteArray) (w : World) (hs : s.size ≤ maxLen) (h : takeE s = none) :
    Calls Tryd.prog 104 #[.string s] w fun x w' => (∃ (t : Int) (d r : ByteArray), x = .returned (.tuple #[.agg #[.int .i64 t, .string d], .string r, .bool false])) ∧ Ext w w' := by
  by_cases hc : 4 ≤ s.size ∧ 4 + (byB s 3).toNat ≤ s.size
  · obtain ⟨h1, h2⟩ := hc
    have h3 : ¬ (entOf s).ok := fun hh => by unfold takeE at h; rw [if_pos ⟨h1, h2, hh⟩] at h; cases h
    exact (rtake_long s w hs (by omega) (by omega) (by omega) (by omega) _ _ _ _ (byB_get s 0 (by omega)) (byB_get s 1 (by omega)) (byB_get s 2 (by omega)) (byB_get s 3 (by omega)) h2 _ _ _ false (Lib.hid rfl) (Lib.hid rfl) (Lib.hid rfl) (Lib.hid (decide_eq_false h3).symm)).mono fun x w' hh => ⟨⟨_, _, _, hh.1⟩, hh.2⟩
  · exact (rtake_short s w hs hc).mono fun x w' hh => ⟨⟨_, _, _, hh.1⟩, hh.2⟩
end Go.Proofs.YtgfkalhpefjenaaDoor
