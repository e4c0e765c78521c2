import Derived.Test.YtgfkalhpefjenaaDoorLeafs
import Derived.Test.YtgfkalhpefjenaaDoorTake
import Derived.Lib.SlicesS
import Derived.BigRegion
import Derived.Handy
namespace Go.Proofs.YtgfkalhpefjenaaDoor
open Go.RowKit
set_option linter.unusedVariables false
attribute [local go_sem ↓] Go.wp_at_zero Go.wp_at_succ

theorem ofInt_u (n : Nat) (h : n < 18446744073709551616) : (BitVec.ofInt 64 (n : Int)).toNat = n := by
  rw [BitVec.toNat_ofInt]; omega
theorem or_add (a b i : Nat) (hb : b < 2 ^ i) (h : a * 2 ^ i + b < 9223372036854775807) : bits .or .i64 ((a * 2 ^ i : Nat) : Int) (b : Int) = ((a * 2 ^ i + b : Nat) : Int) := by
  show IntKind.i64.wrap ((BitVec.ofInt 64 ((a * 2 ^ i : Nat) : Int) ||| BitVec.ofInt 64 (b : Int)).toNat : Int) = _
  rw [BitVec.toNat_or, ofInt_u _ (by omega), ofInt_u b (by omega), Nat.mul_comm a, ← Nat.two_pow_add_eq_or_of_lt hb, Nat.mul_comm]
  exact IntWalk.i64_in _ (by omega)
theorem or_hi (a b : Nat) (ha : a < 256) (hb : b < 256) : bits .or .i64 ((a : Int) * 65536) ((b : Int) * 256) = (a : Int) * 65536 + (b : Int) * 256 := by
  have h := or_add a (b * 256) 16 (by omega) (by omega)
  rw [show ((a * 2 ^ 16 : Nat) : Int) = (a : Int) * 65536 by omega, show ((b * 256 : Nat) : Int) = (b : Int) * 256 by omega] at h
  rw [h]
  omega
theorem or_lo (a b c : Nat) (ha : a < 256) (hb : b < 256) (hc : c < 256) : bits .or .i64 ((a : Int) * 65536 + (b : Int) * 256) (c : Int) = (a : Int) * 65536 + (b : Int) * 256 + (c : Int) := by
  have h := or_add (a * 256 + b) c 8 (by omega) (by omega)
  rw [show (((a * 256 + b) * 2 ^ 8 : Nat) : Int) = (a : Int) * 65536 + (b : Int) * 256 by omega] at h
  rw [h]
  omega

theorem w_small {n : Int} (h0 : 0 ≤ n) (h : n < 256) : wrap64 n = n := by unfold wrap64; omega
theorem w_four {n : Int} (h0 : 0 ≤ n) (h : n < 256) : wrap64 (4 + n) = 4 + n := by unfold wrap64; omega
theorem i_four {n : Int} (h0 : 0 ≤ n) (h : n < 256) : IntKind.i64.wrap (4 + n) = 4 + n := IntWalk.i64_in _ (by omega)
theorem i_small {n : Int} (h0 : 0 ≤ n) (h : n < 256) : IntKind.i64.wrap n = n := IntWalk.i64_in _ (by omega)
theorem u8_lt (b : UInt8) : 0 ≤ (b.toNat : Int) ∧ (b.toNat : Int) < 256 := by have := b.toNat_lt; omega
theorem u8_ltN (b : UInt8) : b.toNat < 256 := b.toNat_lt
theorem four_le {n : Int} (h0 : 0 ≤ n) : (4 : Int) ≤ 4 + n := by omega
theorem four_le' {n m : Nat} (h : 4 + n ≤ m) : 4 + (n : Int) ≤ (m : Int) := by omega
theorem four_0 {n : Int} (h0 : 0 ≤ n) : (0 : Int) ≤ 4 + n := by omega
theorem lt_int {n m : Nat} (h : n < m) : (n : Int) < (m : Int) := by omega
theorem w_hi {a : Nat} (h : a < 256) : wrap64 ((a : Int) * 65536) = (a : Int) * 65536 := by unfold wrap64; omega
theorem w_mid {a : Nat} (h : a < 256) : wrap64 ((a : Int) * 256) = (a : Int) * 256 := by unfold wrap64; omega
theorem four_m {n m : Nat} (h : 4 + n ≤ m) : (4 : Int) ≤ (m : Int) := by omega

set_option maxHeartbeats 1000000 in
set_option maxRecDepth 100000 in
theorem first_long (s : ByteArray) (w : World) (hs : s.size ≤ maxLen) (h0 : 0 < s.size) (h1 : 1 < s.size) (h2 : 2 < s.size) (h3 : 3 < s.size) (b0 b1 b2 b3 : UInt8) (g0 : s[0]'h0 = b0) (g1 : s[1]'h1 = b1) (g2 : s[2]'h2 = b2) (g3 : s[3]'h3 = b3) (hl : 4 + b3.toNat ≤ s.size) (tm : Int) (dt rs : ByteArray) (ok : Bool) (ht : Hid (tm = (b0.toNat : Int) * 65536 + (b1.toNat : Int) * 256 + (b2.toNat : Int))) (hd : Hid (dt = s.extract 4 (4 + b3.toNat))) (hrs : Hid (rs = s.extract (4 + b3.toNat) s.size)) (hok : Hid (ok = decide (Ent.ok ⟨tm, dt⟩)))  :
    Calls Tryd.prog 105 #[.string s] w fun e w' => e = .returned (.tuple #[.agg #[.int .i64 tm, .string dt], .string rs, .bool ok]) ∧ Ext w w' := by
  unfold maxLen at hs
  have k0 := w_small (u8_lt b0).1 (u8_lt b0).2
  have k1 := w_small (u8_lt b1).1 (u8_lt b1).2
  have k2 := w_small (u8_lt b2).1 (u8_lt b2).2
  have k3 := w_small (u8_lt b3).1 (u8_lt b3).2
  have l3 := (u8_lt b3).2
  have q1 := four_le (u8_lt b3).1
  have q2 := four_le' hl
  have q3 := w_four (u8_lt b3).1 (u8_lt b3).2
  have q4 := i_four (u8_lt b3).1 (u8_lt b3).2
  have q5 := four_0 (u8_lt b3).1
  have q6 := four_m hl
  have i1 : (1 : Int) < (s.size : Int) := lt_int h1
  have i2 : (2 : Int) < (s.size : Int) := lt_int h2
  have i0 : (0 : Int) < (s.size : Int) := lt_int h0
  have HV : Hid (bits BinOp.or IntKind.i64 (bits BinOp.or IntKind.i64 (wrap64 ((b0.toNat : Int) * 65536)) (wrap64 ((b1.toNat : Int) * 256))) (b2.toNat : Int) = tm) := by
    show _ = _
    rw [w_hi (u8_ltN b0), w_mid (u8_ltN b1), or_hi b0.toNat b1.toNat (u8_ltN b0) (u8_ltN b1), or_lo b0.toNat b1.toNat b2.toNat (u8_ltN b0) (u8_ltN b1) (u8_ltN b2), ht.out]
  go_enter Tryd.func105, Tryd.ntmps105
  go_wp2_with fail
  go_region
  rw [HV.out, ← hd.out]
  have B1 : Bk ((w.alloc (.cells #[.int .i64 0, .string ⟨#[]⟩] 52)).alloc (.cells #[.int .i64 tm, .string dt] 52)).drew (w.heap.size + 1) 52 #[.int .i64 tm, .string dt] := Bk.at_ _ _ _ _ (by simp)
  have E1 : Ext w ((w.alloc (.cells #[.int .i64 0, .string ⟨#[]⟩] 52)).alloc (.cells #[.int .i64 tm, .string dt] 52)).drew := by (repeat (with_reducible first | exact Ext.refl _ | assumption | refine Ext.drew ?_ | refine Ext.drewN ?_ _ | refine Ext.alloc ?_ _ | refine Ext.trans ?_ (by with_reducible assumption)))
  have B0 : Bk ((w.alloc (.cells #[.int .i64 0, .string ⟨#[]⟩] 52)).alloc (.cells #[.int .i64 tm, .string dt] 52)).drew w.heap.size 52 #[.int .i64 0, .string ⟨#[]⟩] := (Bk.at_ _ _ _ _ rfl).alloc _
  generalize ((w.alloc (.cells #[.int .i64 0, .string ⟨#[]⟩] 52)).alloc (.cells #[.int .i64 tm, .string dt] 52)).drew = w5 at *
  have c0 := B1.cell 0
  have c1 := B1.cell 1
  have d0 := B0.cell 0
  have d1 := B0.cell 1
  have HB1 := Lib.hid B1
  have HB0 := Lib.hid B0
  clear HV k0 k1 k2 k3
  cases ok
  · have hn : ¬ Ent.ok ⟨tm, dt⟩ := of_decide_eq_false hok.out.symm
    clear hok
    go_wp2_with fail
    go_region_held3 (fun W => W.cell? ⟨w.heap.size + 1, 0, none⟩ = some (.int .i64 tm) ∧ W.cell? ⟨w.heap.size + 1, 1, none⟩ = some (.string dt)) (first | exact ⟨c0, c1⟩ | exact ⟨(((HB1.out.drew.ext hb6).far (by simp) _).far (by simp) _).cell 0, (((HB1.out.drew.ext hb6).far (by simp) _).far (by simp) _).cell 1⟩ | exact ⟨(HB1.out.ext (by (repeat (with_reducible first | exact Ext.refl _ | assumption | refine Ext.drew ?_ | refine Ext.drewN ?_ _ | refine Ext.alloc ?_ _ | refine Ext.trans ?_ (by with_reducible assumption))))).cell 0, (HB1.out.ext (by (repeat (with_reducible first | exact Ext.refl _ | assumption | refine Ext.drew ?_ | refine Ext.drewN ?_ _ | refine Ext.alloc ?_ _ | refine Ext.trans ?_ (by with_reducible assumption))))).cell 1⟩) (first
      | (go_at_call 35; (with_reducible refine (eCheck_bad tm dt _ hn).mono ?_); rintro e w6 ⟨rfl, hb6⟩; simp only [errV]; have B6 := (HB0.out.drew).ext hb6; have p0 := B6.cell 0; have p1 := B6.cell 1; have p2 := B6.frozen 0; have p3 := B6.frozen 1)
      | fail)
    have B7 := (B6.set_ 0 (.int .i64 tm)).set_ 1 (.string dt)
    have e0 : ((w6.setCell ⟨w.heap.size, 0, none⟩ (.int .i64 tm)).setCell ⟨w.heap.size, 1, none⟩ (.string dt)).cell? ⟨w.heap.size, 0, none⟩ = some (.int .i64 tm) := (B7.cell 0).trans rfl
    have e1 : ((w6.setCell ⟨w.heap.size, 0, none⟩ (.int .i64 tm)).setCell ⟨w.heap.size, 1, none⟩ (.string dt)).cell? ⟨w.heap.size, 1, none⟩ = some (.string dt) := (B7.cell 1).trans rfl
    have HRS : Hid (s.extract (4 + (b3.toNat : Int)).toNat s.size = rs) := by show _ = _; rw [hrs.out, show (4 + (b3.toNat : Int)).toNat = 4 + b3.toNat by omega]
    have E7 : Ext w ((w6.setCell ⟨w.heap.size, 0, none⟩ (.int .i64 tm)).setCell ⟨w.heap.size, 1, none⟩ (.string dt)) := by
      have hb6' : Ext w w6 := E1.trans (Ext.trans (Ext.drew (Ext.refl _)) hb6)
      exact (hb6'.setCell (p := ⟨w.heap.size, 0, none⟩) (Nat.le_refl _) _).setCell (p := ⟨w.heap.size, 1, none⟩) (Nat.le_refl _) _
    clear p0 p1 c0 c1 d0 d1
    go_wp2_with fail
    rw [HRS.out]
    refine bodyPost_ret (by simp [results, Tryd.results105, go_sem, e0, e1]; try rfl) rfl ?_
    exact ⟨rfl, E7⟩
  · have hy : Ent.ok ⟨tm, dt⟩ := of_decide_eq_true hok.out.symm
    clear hok
    go_wp2_with fail
    go_region_held3 (fun W => W.cell? ⟨w.heap.size + 1, 0, none⟩ = some (.int .i64 tm) ∧ W.cell? ⟨w.heap.size + 1, 1, none⟩ = some (.string dt)) (first | exact ⟨c0, c1⟩ | exact ⟨(((HB1.out.drew.ext hb6).far (by simp) _).far (by simp) _).cell 0, (((HB1.out.drew.ext hb6).far (by simp) _).far (by simp) _).cell 1⟩ | exact ⟨(HB1.out.ext (by (repeat (with_reducible first | exact Ext.refl _ | assumption | refine Ext.drew ?_ | refine Ext.drewN ?_ _ | refine Ext.alloc ?_ _ | refine Ext.trans ?_ (by with_reducible assumption))))).cell 0, (HB1.out.ext (by (repeat (with_reducible first | exact Ext.refl _ | assumption | refine Ext.drew ?_ | refine Ext.drewN ?_ _ | refine Ext.alloc ?_ _ | refine Ext.trans ?_ (by with_reducible assumption))))).cell 1⟩) (first
      | (go_at_call 35; (with_reducible refine (eCheck_ok tm dt _ hy).mono ?_); rintro e w6 ⟨rfl, hb6⟩; have B6 := (HB0.out.drew).ext hb6; have p0 := B6.cell 0; have p1 := B6.cell 1; have p2 := B6.frozen 0; have p3 := B6.frozen 1)
      | fail)
    have B7 := (B6.set_ 0 (.int .i64 tm)).set_ 1 (.string dt)
    have e0 : ((w6.setCell ⟨w.heap.size, 0, none⟩ (.int .i64 tm)).setCell ⟨w.heap.size, 1, none⟩ (.string dt)).cell? ⟨w.heap.size, 0, none⟩ = some (.int .i64 tm) := (B7.cell 0).trans rfl
    have e1 : ((w6.setCell ⟨w.heap.size, 0, none⟩ (.int .i64 tm)).setCell ⟨w.heap.size, 1, none⟩ (.string dt)).cell? ⟨w.heap.size, 1, none⟩ = some (.string dt) := (B7.cell 1).trans rfl
    have HRS : Hid (s.extract (4 + (b3.toNat : Int)).toNat s.size = rs) := by show _ = _; rw [hrs.out, show (4 + (b3.toNat : Int)).toNat = 4 + b3.toNat by omega]
    have E7 : Ext w ((w6.setCell ⟨w.heap.size, 0, none⟩ (.int .i64 tm)).setCell ⟨w.heap.size, 1, none⟩ (.string dt)) := by
      have hb6' : Ext w w6 := E1.trans (Ext.trans (Ext.drew (Ext.refl _)) hb6)
      exact (hb6'.setCell (p := ⟨w.heap.size, 0, none⟩) (Nat.le_refl _) _).setCell (p := ⟨w.heap.size, 1, none⟩) (Nat.le_refl _) _
    clear p0 p1 c0 c1 d0 d1
    go_wp2_with fail
    rw [HRS.out]
    refine bodyPost_ret (by simp [results, Tryd.results105, go_sem, e0, e1]; try rfl) rfl ?_
    exact ⟨rfl, E7⟩

theorem lt_four {n m : Nat} (h : m < 4 + n) : (m : Int) < 4 + (n : Int) := by omega
set_option maxRecDepth 100000 in
theorem first_short (s : ByteArray) (w : World) (hs : s.size ≤ maxLen) (h : ¬ (4 ≤ s.size ∧ 4 + (byB s 3).toNat ≤ s.size)) :
    Calls Tryd.prog 105 #[.string s] w fun e w' => e = .returned (.tuple #[.agg #[.int .i64 0, .string ⟨#[]⟩], .string s, .bool false]) ∧ Ext w w' := by
  unfold maxLen at hs
  by_cases h4 : s.size < 4
  · clear h
    go_enter Tryd.func105, Tryd.ntmps105
    go_wp2_with fail
    refine bodyPost_ret (by simp [results, Tryd.results105, go_sem]; try rfl) rfl ?_
    exact ⟨rfl, (Ext.alloc (Ext.refl w) _)⟩
  · have h3 : 3 < s.size := by omega
    have g3 := byB_get s 3 h3
    have hl : s.size < 4 + (byB s 3).toNat := by omega
    generalize byB s 3 = b3 at *
    clear h
    have k3 := w_small (u8_lt b3).1 (u8_lt b3).2
    have l3 := (u8_lt b3).2
    have q3 := w_four (u8_lt b3).1 (u8_lt b3).2
    have q4 := i_four (u8_lt b3).1 (u8_lt b3).2
    have q5 := lt_four hl
    go_enter Tryd.func105, Tryd.ntmps105
    go_wp2_with fail
    refine bodyPost_ret (by simp [results, Tryd.results105, go_sem]; try rfl) rfl ?_
    exact ⟨rfl, (Ext.alloc (Ext.refl w) _)⟩

/-- what 'first' answers -/
theorem first_some (s : ByteArray) (e : Ent) (r : ByteArray) (w : World) (hs : s.size ≤ maxLen) (h : takeE s = some (e, r)) :
    Calls Tryd.prog 105 #[.string s] w fun x w' => x = .returned (.tuple #[.agg #[.int .i64 e.time, .string e.data], .string r, .bool true]) ∧ Ext w w' := by
  by_cases hc : 4 ≤ s.size ∧ 4 + (byB s 3).toNat ≤ s.size ∧ (entOf s).ok
  · unfold takeE at h
    rw [if_pos hc] at h
    simp only [Option.some.injEq, Prod.mk.injEq] at h
    obtain ⟨rfl, rfl⟩ := h
    obtain ⟨h1, h2, h3⟩ := hc
    exact first_long s w hs (by omega) (by omega) (by omega) (by omega) _ _ _ _ (byB_get s 0 (by omega)) (byB_get s 1 (by omega)) (byB_get s 2 (by omega)) (byB_get s 3 (by omega)) h2 _ _ _ true (Lib.hid rfl) (Lib.hid rfl) (Lib.hid rfl) (Lib.hid (decide_eq_true h3).symm)
  · rw [takeE_none hc] at h; cases h
theorem first_none (s : ByteArray) (w : World) (hs : s.size ≤ maxLen) (h : takeE s = none) :
    Calls Tryd.prog 105 #[.string s] w fun x w' => (∃ (t : Int) (d r : ByteArray), x = .returned (.tuple #[.agg #[.int .i64 t, .string d], .string r, .bool false])) ∧ Ext w w' := by
  by_cases hc : 4 ≤ s.size ∧ 4 + (byB s 3).toNat ≤ s.size
  · obtain ⟨h1, h2⟩ := hc
    have h3 : ¬ (entOf s).ok := fun hh => by unfold takeE at h; rw [if_pos ⟨h1, h2, hh⟩] at h; cases h
    exact (first_long s w hs (by omega) (by omega) (by omega) (by omega) _ _ _ _ (byB_get s 0 (by omega)) (byB_get s 1 (by omega)) (byB_get s 2 (by omega)) (byB_get s 3 (by omega)) h2 _ _ _ false (Lib.hid rfl) (Lib.hid rfl) (Lib.hid rfl) (Lib.hid (decide_eq_false h3).symm)).mono fun x w' hh => ⟨⟨_, _, _, hh.1⟩, hh.2⟩
  · exact (first_short s w hs hc).mono fun x w' hh => ⟨⟨_, _, _, hh.1⟩, hh.2⟩
end Go.Proofs.YtgfkalhpefjenaaDoor
