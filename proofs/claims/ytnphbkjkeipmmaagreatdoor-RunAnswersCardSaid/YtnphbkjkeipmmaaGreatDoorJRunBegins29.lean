/- The references' proofs that a tree has but grown. -/
import Derived.Test.YtnphbkjkeipmmaaGreatDoorJRunBegins25
import Derived.Test.YtnphbkjkeipmmaaGreatDoorJRunBegins13
import Derived.Test.YtnphbkjkeipmmaaGreatDoorJRunBegins26
import Derived.Test.YtnphbkjkeipmmaaGreatDoorJRunBegins28
import Derived.Test.YtnphbkjkeipmmaaGreatDoorJRunBegins17
import Derived.Test.YtnphbkjkeipmmaaGreatDoorJRunBegins11
import Derived.Test.YtnphbkjkeipmmaaGreatDoorJRunBegins9
import Derived.Deep.RegionWith
import Derived.Deep.CutRange
import Derived.Deep.DeepCutAuto
namespace Go.Proofs.YtnphbkjkeipmmaaGreatDoor
open Go.RowKit Go.WideShapes
set_option linter.unusedVariables false
attribute [local go_sem ↓] Go.wp_at_zero Go.wp_at_succ

set_option maxRecDepth 100000 in
set_option maxHeartbeats 1000000 in
theorem RGrowSteps_any (N : Nat) : ∀ (o n : Nat) (b : Bool) (w : World), n ≤ N → 1 ≤ o → o ≤ n → n ≤ 4096 →
    Calls Tryz.prog 97 #[.int .i64 o, .int .i64 n, .bool b] w fun e w' => e = .returned (.int .i64 (gsteps o n b : Nat)) ∧ w = w' := by
  induction N with
  | zero => intro o n b w h h1; omega
  | succ N ih =>
    intro o n b w hN h1 hon hn
    have IH := Lib.hid ih
    clear ih
    by_cases ho : o = n
    · subst ho
      cases b
      · have HS := Lib.hid (gsteps_part o)
        go_enter Tryz.func97, Tryz.ntmps97
        go_wp2_with fail
        go_ret
        exact ⟨ret_int (by rw [HS.out]; rfl), rfl⟩
      · have HS := Lib.hid (gsteps_whole o)
        go_enter Tryz.func97, Tryz.ntmps97
        go_wp2_with fail
        go_ret
        exact ⟨ret_int (by rw [HS.out]; rfl), rfl⟩
    · have h2 : 2 ≤ n := by omega
      have hk := half_lt h2 hn
      have hk0 := half_pos n
      have ho' : ((o : Int) == (n : Int)) = false := by simp; omega
      by_cases hok : o ≤ half n
      · have hS := gsteps_left b ho h2 hn hok
        have hb := gsteps_le (half n) o (half n) b (Nat.le_refl _) (by omega) (by omega)
        have hI := fun W => IH.out o (half n) b W (by omega) h1 hok (by omega)
        generalize gsteps o (half n) b = s at *
        have HS := Lib.hid hS
        have HI := Lib.hid hI
        have i1 : (o : Int) ≤ ((half n : Nat) : Int) := by omega
        clear hS hI ho IH
        go_enter Tryz.func97, Tryz.ntmps97
        go_wp2_with fail
        refine (RHalf_any n _ (by omega) hn).mono ?_
        rintro _ w' ⟨rfl, rfl⟩
        go_wp2_with fail
        refine (HI.out _).mono ?_
        rintro _ w' ⟨rfl, rfl⟩
        go_wp2_with fail
        go_ret
        exact ⟨ret_int (by rw [HS.out]; omega), rfl⟩
      · have hS := gsteps_right b ho h2 hn hok
        have hb := gsteps_le (n - half n) (o - half n) (n - half n) false (Nat.le_refl _) (by omega) (by omega)
        have hI := fun W => IH.out (o - half n) (n - half n) false W (by omega) (by omega) (by omega) (by omega)
        generalize gsteps (o - half n) (n - half n) false = s at *
        have HS := Lib.hid hS
        have HI := Lib.hid hI
        have i1 : ((half n : Nat) : Int) < (o : Int) := by omega
        have N1 : Hid ((o : Int) - ((half n : Nat) : Int) = ((o - half n : Nat) : Int)) := by show _ = _; omega
        have N2 : Hid ((n : Int) - ((half n : Nat) : Int) = ((n - half n : Nat) : Int)) := by show _ = _; omega
        clear hS hI ho IH hok
        go_enter Tryz.func97, Tryz.ntmps97
        go_wp2_with fail
        refine (RHalf_any n _ (by omega) hn).mono ?_
        rintro _ w' ⟨rfl, rfl⟩
        go_wp2_with fail
        rw [N1.out, N2.out]
        refine (HI.out _).mono ?_
        rintro _ w' ⟨rfl, rfl⟩
        go_wp2_with fail
        go_ret
        exact ⟨ret_int (by rw [HS.out]; omega), rfl⟩

set_option maxRecDepth 100000 in
set_option maxHeartbeats 2000000 in
theorem RGrown_any (N : Nat) : ∀ (r : Int) (o n : Nat) (A : Option Addr) (m c : Nat) (ps : List Int) (b : Bool) (w : World), n ≤ N → 1 ≤ o → o ≤ n → n ≤ 4096 → m = gsteps o n b → Rd w 1 A m c (ps.map (Value.int .i64)) → c ≤ maxLen → vld r = true → allV ps = true →
    Calls Tryz.prog 98 #[.int .i64 r, .int .i64 o, .int .i64 n, .slice A m c, .bool b] w fun e w' => e = .returned (.tuple #[.int .i64 (groots r o n ps b).1, .int .i64 (groots r o n ps b).2]) ∧ Ext w w' := by
  induction N with
  | zero => intro r o n A m c ps b w h h1; omega
  | succ N ih =>
    intro r o n A m c ps b w hN h1 hon hn hms hr hm hv hp
    have hx := hr.lenI
    have hl : m ≤ c := hr.2.1
    have IH := Lib.hid ih
    clear ih
    by_cases ho : o = n
    · subst ho
      cases b
      · rw [gsteps_part] at hms
        subst hms
        obtain ⟨x, rfl⟩ := List.length_eq_one_iff.1 hx
        have HS := Lib.hid (groots_part r o [x])
        obtain ⟨ad, rfl, hb, hcell⟩ := hr.getI (j := 0) (z := x) rfl
        rw [add_zero'] at hcell
        clear hx hr
        go_enter Tryz.func98, Tryz.ntmps98
        go_wp2_with fail
        go_quiet (fail)
        go_wp2_with fail
        go_ret2
        exact ⟨ret_two (by rw [HS.out]; rfl) (by rw [HS.out]; rfl), by (repeat (with_reducible first | exact Ext.refl _ | assumption | refine Ext.drew ?_ | refine Ext.drewN ?_ _ | refine Ext.alloc ?_ _ | refine Ext.trans ?_ (by with_reducible assumption)))⟩
      · rw [gsteps_whole] at hms
        have HS := Lib.hid (groots_whole r o ps)
        subst hms
        clear hx hr
        go_enter Tryz.func98, Tryz.ntmps98
        go_wp2_with fail
        go_ret2
        exact ⟨ret_two (by rw [HS.out]; rfl) (by rw [HS.out]; rfl), by (repeat (with_reducible first | exact Ext.refl _ | assumption | refine Ext.drew ?_ | refine Ext.drewN ?_ _ | refine Ext.alloc ?_ _ | refine Ext.trans ?_ (by with_reducible assumption)))⟩
    · have h2 : 2 ≤ n := by omega
      have hk := half_lt h2 hn
      have hk0 := half_pos n
      have ho' : ((o : Int) == (n : Int)) = false := by simp; omega
      by_cases hok : o ≤ half n
      · have hS := groots_left (r := r) (p := ps) b ho h2 hn hok
        obtain ⟨k, hmk⟩ : ∃ k, m = k + 1 := ⟨gsteps o (half n) b, by rw [hms, gsteps_left b ho h2 hn hok]⟩
        have hks : k = gsteps o (half n) b := by rw [gsteps_left b ho h2 hn hok] at hms; omega
        subst hmk
        have hlast := last_of hx
        have hvl := allV_get hp hlast
        rw [← init_of hx] at hS
        obtain ⟨ad, hA, hb, hcell⟩ := hr.getI hlast
        have R := hr.takeI (k := k) (by omega)
        have hvt := allV_take hp k
        have hgv := groots_vld (half n) r o (half n) (ps.take k) b (Nat.le_refl _) h1 hok (by omega) hv hvt (by rw [List.length_take, hx, ← hks]; omega)
        have hI := fun (W : World) (e : Ext w W) => IH.out r o (half n) A k c (ps.take k) b W (by omega) h1 hok (by omega) hks (R.ext e) hm hv hvt
        generalize groots r o (half n) (ps.take k) b = g at *
        obtain ⟨ga, gb⟩ := g
        generalize ps.getLastD 0 = z at *
        have HS := Lib.hid hS
        have HI := Lib.hid hI
        have HV := Lib.hid hgv.2
        have HVZ := Lib.hid hvl
        subst hA
        clear hx hms hlast hks hS hI IH ho hgv hvl
        unfold maxLen at hm
        have i1 : (o : Int) ≤ ((half n : Nat) : Int) := by omega
        go_enter Tryz.func98, Tryz.ntmps98
        go_wp2_with fail
        refine (RHalf_any n _ (by omega) hn).mono ?_
        rintro e w' ⟨rfl, rfl⟩
        go_wp2_with fail
        refine (HI.out _ (Ext.refl _)).mono ?_
        rintro _ w1 ⟨rfl, hb1⟩
        go_wp2_with fail
        refine (RNode_any _ _ _ HV.out HVZ.out).mono ?_
        rintro _ w2 ⟨rfl, hb2⟩
        go_wp2_with fail
        go_ret2
        exact ⟨ret_two (by rw [HS.out]; rfl) (by rw [HS.out]; rfl), by (repeat (with_reducible first | exact Ext.refl _ | assumption | refine Ext.drew ?_ | refine Ext.drewN ?_ _ | refine Ext.alloc ?_ _ | refine Ext.trans ?_ (by with_reducible assumption)))⟩
      · have hS := groots_right (r := r) (p := ps) b ho h2 hn hok
        obtain ⟨k, hmk⟩ : ∃ k, m = k + 1 := ⟨gsteps (o - half n) (n - half n) false, by rw [hms, gsteps_right b ho h2 hn hok]⟩
        have hks : k = gsteps (o - half n) (n - half n) false := by rw [gsteps_right b ho h2 hn hok] at hms; omega
        subst hmk
        have hlast := last_of hx
        have hvl := allV_get hp hlast
        rw [← init_of hx] at hS
        obtain ⟨ad, hA, hb, hcell⟩ := hr.getI hlast
        have R := hr.takeI (k := k) (by omega)
        have hvt := allV_take hp k
        have hgv := groots_vld (n - half n) r (o - half n) (n - half n) (ps.take k) false (Nat.le_refl _) (by omega) (by omega) (by omega) hv hvt (by rw [List.length_take, hx, ← hks]; omega)
        have hI := fun (W : World) (e : Ext w W) => IH.out r (o - half n) (n - half n) A k c (ps.take k) false W (by omega) (by omega) (by omega) (by omega) hks (R.ext e) hm hv hvt
        generalize groots r (o - half n) (n - half n) (ps.take k) false = g at *
        obtain ⟨ga, gb⟩ := g
        generalize ps.getLastD 0 = z at *
        have HS := Lib.hid hS
        have HI := Lib.hid hI
        have HVa := Lib.hid hgv.1
        have HVb := Lib.hid hgv.2
        have HVZ := Lib.hid hvl
        subst hA
        clear hx hms hlast hks hS hI IH ho hgv hvl
        unfold maxLen at hm
        have i1 : ((half n : Nat) : Int) < (o : Int) := by omega
        have N1 : Hid ((o : Int) - ((half n : Nat) : Int) = ((o - half n : Nat) : Int)) := by show _ = _; omega
        have N2 : Hid ((n : Int) - ((half n : Nat) : Int) = ((n - half n : Nat) : Int)) := by show _ = _; omega
        clear hok
        go_enter Tryz.func98, Tryz.ntmps98
        go_wp2_with fail
        refine (RHalf_any n _ (by omega) hn).mono ?_
        rintro e w' ⟨rfl, rfl⟩
        go_wp2_with fail
        rw [N1.out, N2.out]
        refine (HI.out _ (Ext.refl _)).mono ?_
        rintro _ w1 ⟨rfl, hb1⟩
        go_wp2_with fail
        refine (RNode_any _ _ _ HVZ.out HVa.out).mono ?_
        rintro _ w2 ⟨rfl, hb2⟩
        go_wp2_with fail
        refine (RNode_any _ _ _ HVZ.out HVb.out).mono ?_
        rintro _ w3 ⟨rfl, hb3⟩
        go_wp2_with fail
        go_ret2
        exact ⟨ret_two (by rw [HS.out]; rfl) (by rw [HS.out]; rfl), by (repeat (with_reducible first | exact Ext.refl _ | assumption | refine Ext.drew ?_ | refine Ext.drewN ?_ _ | refine Ext.alloc ?_ _ | refine Ext.trans ?_ (by with_reducible assumption)))⟩

set_option maxRecDepth 100000 in
set_option maxHeartbeats 2000000 in
theorem RGrow_any (N : Nat) : ∀ (A : Option Addr) (n c : Nat) (xs : List Int) (o : Nat) (b : Bool) (w : World), n ≤ N → Rd w 1 A n c (xs.map (Value.int .i64)) → c ≤ maxLen → 1 ≤ o → o ≤ n → n ≤ 4096 → allV xs = true →
    Calls Tryz.prog 36 #[.slice A n c, .int .i64 o, .bool b] w fun e w' => (∃ v, e = .returned v ∧ OwnI w w' v (growL xs o b)) ∧ Ext w w' := by
  induction N with
  | zero => intro A n c xs o b w hN hr hm h1 h2; omega
  | succ N ih =>
    intro A n c xs o b w hN hr hm h1 hon hn hv
    have hx := hr.lenI
    have hl : n ≤ c := hr.2.1
    have IH := Lib.hid ih
    clear ih
    by_cases ho : o = n
    · subst ho
      cases b
      · have HG := Lib.hid (growL_part hx.symm)
        clear hx
        go_enter Tryz.func36, Tryz.ntmps36
        go_wp2_with fail
        refine (RRoot_any o A o c xs _ (Nat.le_refl _) hr hm hn hv).mono ?_
        rintro _ w1 ⟨rfl, hb1⟩
        go_wp2_with fail
        go_ret
        exact ⟨⟨_, rfl, by rw [HG.out]; exact (OwnI.lit w1 _).lower hb1.size⟩, by (repeat (with_reducible first | exact Ext.refl _ | assumption | refine Ext.drew ?_ | refine Ext.drewN ?_ _ | refine Ext.alloc ?_ _ | refine Ext.trans ?_ (by with_reducible assumption)))⟩
      · have HG := Lib.hid (growL_whole hx.symm)
        clear hx
        go_enter Tryz.func36, Tryz.ntmps36
        go_wp2_with fail
        go_ret
        exact ⟨⟨_, rfl, by rw [HG.out]; exact own_nil _ _ _ _⟩, by (repeat (with_reducible first | exact Ext.refl _ | assumption | refine Ext.drew ?_ | refine Ext.drewN ?_ _ | refine Ext.alloc ?_ _ | refine Ext.trans ?_ (by with_reducible assumption)))⟩
    · have h2 : 2 ≤ n := by omega
      have hk := half_lt h2 hn
      have hk0 := half_pos n
      have ho' : ((o : Int) == (n : Int)) = false := by simp; omega
      unfold maxLen at hm
      have q1 : (half n : Int) ≤ (n : Int) := by omega
      have q2 : (half n : Int) ≤ (c : Int) := by omega
      have q3 : (n : Int) ≤ (c : Int) := by omega
      have R1 := hr.takeI (k := half n) (by omega)
      have R2 := hr.dropI' (k := half n) (by omega)
      have HX := Lib.hid hx
      obtain ⟨i0, hi0, hz0, hz1, hz2⟩ := info_parts info_int
      by_cases hok : o ≤ half n
      · have hlen := growL_len n (xs.take (half n)) o b (by rw [List.length_take]; omega) h1 (by rw [List.length_take]; omega) (by rw [List.length_take]; omega)
        rw [List.length_take, Nat.min_eq_left (by omega)] at hlen
        have hsl := gsteps_le (half n) o (half n) b (Nat.le_refl _) hk0 (by omega)
        have HG := Lib.hid (growL_left (xs := xs) (o := o) b (by omega) (by omega) (by omega) (by rw [hx]; exact hok))
        have HL : (growL (xs.take (half n)) o b).length ≤ 4096 := by omega
        have i1 : (o : Int) ≤ ((half n : Nat) : Int) := by omega
        clear hx hlen hsl ho
        go_enter Tryz.func36, Tryz.ntmps36
        go_wp2_with fail
        refine (RHalf_any n _ (by omega) hn).mono ?_
        rintro e w' ⟨rfl, rfl⟩
        go_wp2_with fail
        refine (IH.out A (half n) c (xs.take (half n)) o b _ (by omega) R1 (by simp only [maxLen]; omega) h1 hok (by omega) (allV_take hv (half n))).mono ?_
        rintro _ w1 ⟨⟨v1, rfl, own1⟩, hb1⟩
        have hs1 := hb1.size
        go_wp2_with fail
        refine (RRoot_any N _ _ _ (xs.drop (half n)) _ (by omega) (R2.ext hb1) (by simp only [maxLen]; omega) (by omega) (allV_drop hv (half n))).mono ?_
        rintro _ w2 ⟨rfl, hb2⟩
        have hs2 := hb2.size
        go_wp2_with (at_builtin; refine wpl_app (by rfl) _ _ _ (by rfl) w.heap.size 3 i0 _ 1 8 Tryz.underlying85 hi0 hz0 hz1 hz2 rfl (by omega) v1 _ _ (by rfl) ((own1.ext hb2).alloc _) w2.heap.size 1 [.int .i64 (ofL (xs.drop (half n)))] rfl (by rfl) (news_new w2 _ _ _ rfl) (oneI _) (by omega) (by omega) (by simp; omega) ?_; intro g cap w3 own3 hext3)
        go_ret
        exact ⟨⟨_, rfl, OwnI.mk own3 (by rw [HG.out, HX.out]; simp) (by rw [HG.out, HX.out]; simp)⟩, hext3 _ (Nat.le_refl _) (by (repeat (with_reducible first | exact Ext.refl _ | assumption | refine Ext.drew ?_ | refine Ext.drewN ?_ _ | refine Ext.alloc ?_ _ | refine Ext.trans ?_ (by with_reducible assumption))))⟩
      · have hlen := growL_len n (xs.drop (half n)) (o - half n) false (by rw [List.length_drop]; omega) (by omega) (by rw [List.length_drop]; omega) (by rw [List.length_drop]; omega)
        rw [List.length_drop, hx] at hlen
        have hsl := gsteps_le (n - half n) (o - half n) (n - half n) false (Nat.le_refl _) (by omega) (by omega)
        have HG := Lib.hid (growL_right (xs := xs) (o := o) b (by omega) (by omega) (by omega) (by rw [hx]; exact hok))
        have HL : (growL (xs.drop (half n)) (o - half n) false).length ≤ 4096 := by omega
        have i1 : ((half n : Nat) : Int) < (o : Int) := by omega
        have N1 : Hid ((o : Int) - ((half n : Nat) : Int) = ((o - half n : Nat) : Int)) := by show _ = _; omega
        clear hx hlen hsl ho hok
        go_enter Tryz.func36, Tryz.ntmps36
        go_wp2_with fail
        refine (RHalf_any n _ (by omega) hn).mono ?_
        rintro e w' ⟨rfl, rfl⟩
        go_wp2_with fail
        rw [N1.out]
        refine (IH.out _ (n - half n) _ (xs.drop (half n)) (o - half n) false _ (by omega) R2 (by simp only [maxLen]; omega) (by omega) (by omega) (by omega) (allV_drop hv (half n))).mono ?_
        rintro _ w1 ⟨⟨v1, rfl, own1⟩, hb1⟩
        have hs1 := hb1.size
        go_wp2_with fail
        refine (RRoot_any N _ _ _ (xs.take (half n)) _ (by omega) (R1.ext hb1) (by simp only [maxLen]; omega) (by omega) (allV_take hv (half n))).mono ?_
        rintro _ w2 ⟨rfl, hb2⟩
        have hs2 := hb2.size
        go_wp2_with (at_builtin; refine wpl_app (by rfl) _ _ _ (by rfl) w.heap.size 3 i0 _ 1 8 Tryz.underlying85 hi0 hz0 hz1 hz2 rfl (by omega) v1 _ _ (by rfl) ((own1.ext hb2).alloc _) w2.heap.size 1 [.int .i64 (ofL (xs.take (half n)))] rfl (by rfl) (news_new w2 _ _ _ rfl) (oneI _) (by omega) (by omega) (by simp; omega) ?_; intro g cap w3 own3 hext3)
        go_ret
        exact ⟨⟨_, rfl, OwnI.mk own3 (by rw [HG.out, HX.out]; simp) (by rw [HG.out, HX.out]; simp)⟩, hext3 _ (Nat.le_refl _) (by (repeat (with_reducible first | exact Ext.refl _ | assumption | refine Ext.drew ?_ | refine Ext.drewN ?_ _ | refine Ext.alloc ?_ _ | refine Ext.trans ?_ (by with_reducible assumption))))⟩
end Go.Proofs.YtnphbkjkeipmmaaGreatDoor

/- The references' answers: texts; the words. -/
namespace Go.Proofs.YtnphbkjkeipmmaaGreatDoor
open Go.RowKit Go.WideShapes
set_option linter.unusedVariables false
attribute [local go_sem ↓] Go.wp_at_zero Go.wp_at_succ

theorem jnB_hex_size (l : List Int) : (jnB (l.map fun z => hexT z.toNat)).size ≤ l.length * 9 := by
  have h := join_le 8 ((l.map fun z => hexT z.toNat).map (·.data.toList)) (fun x hx => by
    rw [List.map_map] at hx
    obtain ⟨z, _, rfl⟩ := List.mem_map.1 hx
    have := hexT_size z.toNat
    show (hexT z.toNat).data.toList.length ≤ 8
    have h2 : (hexT z.toNat).data.toList.length = (hexT z.toNat).size := rfl
    omega)
  simp only [List.length_map] at h
  exact h
theorem litB_ne {x k : ByteArray} (h : x ≠ k) : (x.toList == k.toList) = false := beq_eq_false_iff_ne.2 fun e => h (ba_ext (by
  have e1 := ByteArray.toList_eq x
  have e2 := ByteArray.toList_eq k
  rw [← e1, ← e2]; exact e))
theorem word_facts (x : ByteArray) :
    ((x.toList == ([104, 101, 97, 100] : List UInt8)) = true ∧ wantN x = some 0) ∨
    ((x.toList == ([104, 101, 97, 100] : List UInt8)) = false ∧ (x.toList == ([101, 110, 116, 114, 121] : List UInt8)) = true ∧ wantN x = some 1) ∨
    ((x.toList == ([104, 101, 97, 100] : List UInt8)) = false ∧ (x.toList == ([101, 110, 116, 114, 121] : List UInt8)) = false ∧ (x.toList == ([108, 101, 97, 102] : List UInt8)) = true ∧ wantN x = some 1) ∨
    ((x.toList == ([104, 101, 97, 100] : List UInt8)) = false ∧ (x.toList == ([101, 110, 116, 114, 121] : List UInt8)) = false ∧ (x.toList == ([108, 101, 97, 102] : List UInt8)) = false ∧ (x.toList == ([112, 114, 111, 111, 102] : List UInt8)) = true ∧ wantN x = some 2) ∨
    ((x.toList == ([104, 101, 97, 100] : List UInt8)) = false ∧ (x.toList == ([101, 110, 116, 114, 121] : List UInt8)) = false ∧ (x.toList == ([108, 101, 97, 102] : List UInt8)) = false ∧ (x.toList == ([112, 114, 111, 111, 102] : List UInt8)) = false ∧ (x.toList == ([103, 114, 111, 119] : List UInt8)) = true ∧ wantN x = some 2) ∨
    ((x.toList == ([104, 101, 97, 100] : List UInt8)) = false ∧ (x.toList == ([101, 110, 116, 114, 121] : List UInt8)) = false ∧ (x.toList == ([108, 101, 97, 102] : List UInt8)) = false ∧ (x.toList == ([112, 114, 111, 111, 102] : List UInt8)) = false ∧ (x.toList == ([103, 114, 111, 119] : List UInt8)) = false ∧ (x.toList == ([116, 105, 108, 101] : List UInt8)) = true ∧ wantN x = some 2) ∨
    ((x.toList == ([104, 101, 97, 100] : List UInt8)) = false ∧ (x.toList == ([101, 110, 116, 114, 121] : List UInt8)) = false ∧ (x.toList == ([108, 101, 97, 102] : List UInt8)) = false ∧ (x.toList == ([112, 114, 111, 111, 102] : List UInt8)) = false ∧ (x.toList == ([103, 114, 111, 119] : List UInt8)) = false ∧ (x.toList == ([116, 105, 108, 101] : List UInt8)) = false ∧ wantN x = none) := by
  have k0 : wHead.toList = ([104, 101, 97, 100] : List UInt8) := by kernel_rfl
  have k1 : wEntry.toList = ([101, 110, 116, 114, 121] : List UInt8) := by kernel_rfl
  have k2 : wLeaf.toList = ([108, 101, 97, 102] : List UInt8) := by kernel_rfl
  have k3 : wProof.toList = ([112, 114, 111, 111, 102] : List UInt8) := by kernel_rfl
  have k4 : wGrow.toList = ([103, 114, 111, 119] : List UInt8) := by kernel_rfl
  have k5 : wTile.toList = ([116, 105, 108, 101] : List UInt8) := by kernel_rfl
  rw [← k0, ← k1, ← k2, ← k3, ← k4, ← k5]
  by_cases h0 : x = wHead
  · subst h0; exact .inl ⟨beq_iff_eq.2 rfl, by decide⟩
  have f0 := litB_ne h0
  by_cases h1 : x = wEntry
  · subst h1; exact .inr (.inl ⟨f0, beq_iff_eq.2 rfl, by decide⟩)
  have f1 := litB_ne h1
  by_cases h2 : x = wLeaf
  · subst h2; exact .inr (.inr (.inl ⟨f0, f1, beq_iff_eq.2 rfl, by decide⟩))
  have f2 := litB_ne h2
  by_cases h3 : x = wProof
  · subst h3; exact .inr (.inr (.inr (.inl ⟨f0, f1, f2, beq_iff_eq.2 rfl, by decide⟩)))
  have f3 := litB_ne h3
  by_cases h4 : x = wGrow
  · subst h4; exact .inr (.inr (.inr (.inr (.inl ⟨f0, f1, f2, f3, beq_iff_eq.2 rfl, by decide⟩))))
  have f4 := litB_ne h4
  by_cases h5 : x = wTile
  · subst h5; exact .inr (.inr (.inr (.inr (.inr (.inl ⟨f0, f1, f2, f3, f4, beq_iff_eq.2 rfl, by decide⟩)))))
  exact .inr (.inr (.inr (.inr (.inr (.inr ⟨f0, f1, f2, f3, f4, litB_ne h5, by
    unfold wantN
    rw [if_neg h5, if_neg h4, if_neg h3, if_neg h2, if_neg h1, if_neg h0]⟩)))))
/-- how many numbers a word wants; -1: it is none -/
def manyV (x : ByteArray) : Int := match wantN x with | none => -1 | some n => (n : Int)
theorem manyV_of {x : ByteArray} {n : Nat} (h : wantN x = some n) : manyV x = (n : Int) := by unfold manyV; rw [h]
theorem manyV_none {x : ByteArray} (h : wantN x = none) : manyV x = -1 := by unfold manyV; rw [h]
theorem manyV_bd (x : ByteArray) : -1 ≤ manyV x ∧ manyV x ≤ 2 := by
  cases h : wantN x with
  | none => rw [manyV_none h]; omega
  | some n => rw [manyV_of h]; have := wantN_le h; omega

set_option maxRecDepth 100000 in
set_option maxHeartbeats 2000000 in
theorem RSTexts_any (A : Option Addr) (n c : Nat) (xs : List Int) (w : World) (hr : Rd w 1 A n c (xs.map (Value.int .i64))) (hm : c ≤ maxLen) (hn : n ≤ 4096) (hv : allV xs = true) :
    Calls Tryz.prog 41 #[.slice A n c] w fun e w' => e = .returned (.string (textsV xs)) ∧ Ext w w' := by
  have hx := hr.lenI
  have hnc := hr.2.1
  have hcs : c ≤ 9223372036854775807 := by unfold maxLen at hm; omega
  by_cases h0 : n = 0
  · subst h0
    obtain rfl : xs = [] := List.eq_nil_of_length_eq_zero hx
    have HV : Hid (textsV [] = ⟨#[45]⟩) := Lib.hid (if_pos rfl)
    clear hr hv hx
    go_enter Tryz.func41, Tryz.ntmps41
    go_wp2_with fail
    go_ret
    exact ⟨ret_str (by rw [HV.out]), Ext.refl _⟩
  have hpos : 0 < n := by omega
  have hn0 : ((n : Int) == 0) = false := beq_eq_false_iff_ne.2 (by omega)
  have HV : Hid (textsV xs = jnB (xs.map fun z => hexT z.toNat)) := Lib.hid (if_neg fun h => by rw [h] at hx; simp at hx; omega)
  have HR := Lib.hid hr
  have HX := Lib.hid hx
  have HW := Lib.hid hv
  clear hr hv hx
  go_enter Tryz.func41, Tryz.ntmps41
  go_wp2_with fail
  go_loopw [3, 4, 5] (fun v x _ wr => ∃ (j : Nat) (s : ByteArray), x = .int .i64 j ∧ v = .string s ∧ j ≤ n ∧ Ext w wr ∧ s.size ≤ j * 9 ∧ Hid (s = jnB ((xs.take j).map fun z => hexT z.toNat))) (fun _ x _ _ => n - (intOf x).toNat)
  case atStart => exact ⟨0, ⟨#[]⟩, rfl, rfl, Nat.zero_le _, Ext.refl _, Nat.zero_le _, Lib.hid jnB_nil.symm⟩
  case round =>
    obtain ⟨j, s, rfl, rfl, hj, hbw, hsz, HS⟩ := hrel
    by_cases hc : j < n
    case neg =>
      obtain rfl : j = n := by omega
      have hs := HS.out
      rw [List.take_of_length_le (by rw [HX.out]; exact Nat.le_refl _)] at hs
      have HS2 := Lib.hid hs
      clear hs
      go_wp2_with fail
      go_ret
      exact ⟨ret_str (by rw [HV.out, HS2.out]), hbw⟩
    have hcI : (j : Int) < (n : Int) := by omega
    have hgj := List.getElem?_eq_getElem (l := xs) (i := j) (by rw [HX.out]; exact hc)
    obtain ⟨ad, rfl, hb, c0⟩ := (HR.out.ext hbw).getI hgj
    have hvz := allV_get HW.out hgj
    have HGJ := Lib.hid hgj
    generalize xs[j]'(by rw [HX.out]; exact hc) = z at *
    obtain ⟨hz1, hz2⟩ := vld_true hvz
    obtain ⟨z, rfl⟩ := Int.eq_ofNat_of_zero_le hz1
    have HT := Lib.hid fun W => RText_any z W (by omega)
    have hts := hexT_size z
    have HTK : Hid (xs.take (j + 1) = xs.take j ++ [(z : Int)]) := Lib.hid (by rw [List.take_add_one, HGJ.out]; rfl)
    obtain ⟨t, ht⟩ : ∃ t, hexT z = t := ⟨_, rfl⟩
    have HTE := Lib.hid ht
    rw [ht] at HT hts
    have hts8 : t.size ≤ 8 := by omega
    clear hgj hvz hz1 hz2 ht hts
    have hnext : ∀ u : ByteArray, u = (if j = 0 then (⟨#[]⟩ : ByteArray) ++ t else jnB ((xs.take j).map fun z => hexT z.toNat) ++ (⟨#[32]⟩ ++ t)) → u = jnB ((xs.take (j + 1)).map fun z => hexT z.toNat) := fun u hu => by
      rw [hu, HTK.out, List.map_append]
      show _ = jnB (_ ++ [hexT z])
      rw [HTE.out]
      by_cases hj0 : j = 0
      · subst hj0
        rw [if_pos rfl]
        show _ = jnB [t]
        rw [jnB_one]
        apply ba_ext; simp
      · rw [if_neg hj0, jnB_snoc _ _ (by
          intro h
          have h2 := congrArg List.length h
          rw [List.length_map, List.length_take, HX.out] at h2
          simp at h2; omega)]
    have HNX := Lib.hid hnext
    clear hnext
    rcases Nat.eq_zero_or_pos j with hj0 | hj0
    · subst hj0
      have hs0 : s = ⟨#[]⟩ := by rw [HS.out]; exact jnB_nil
      subst hs0
      rw [add_zero'] at c0
      go_wp2_with fail
      refine (HT.out _).mono ?_
      rintro _ w2 ⟨rfl, hb2⟩
      have hz0 : (⟨#[]⟩ : ByteArray).size = 0 := rfl
      go_wp2_with fail
      go_roundw
      case rel => exact ⟨1, (⟨#[]⟩ : ByteArray) ++ t, by go_num, rfl, by omega, hbw.trans hb2, by rw [ByteArray.size_append]; omega, Lib.hid (HNX.out _ (if_pos trivial).symm)⟩
      case measure => simp [intOf]; omega
    · have hjI : (0 : Int) < (j : Int) := by omega
      have hz1 : (⟨#[32]⟩ : ByteArray).size = 1 := rfl
      have hs4 : s.size ≤ 40000 := by omega
      go_wp2_with fail
      refine (HT.out _).mono ?_
      rintro _ w2 ⟨rfl, hb2⟩
      have hs5 : (s ++ (⟨#[32]⟩ : ByteArray)).size ≤ 40001 := by rw [ByteArray.size_append]; omega
      go_wp2_with fail
      go_roundw
      case rel => exact ⟨j + 1, s ++ ⟨#[32]⟩ ++ t, by go_num, rfl, by omega, hbw.trans hb2, by rw [ByteArray.size_append, ByteArray.size_append]; omega, Lib.hid (HNX.out _ (by rw [if_neg (by omega), ← HS.out, ByteArray.append_assoc]))⟩
      case measure => simp [intOf]; omega
end Go.Proofs.YtnphbkjkeipmmaaGreatDoor

/- A session, plain: how large faults and answers are. -/
namespace Go.Proofs.YtnphbkjkeipmmaaGreatDoor
open Go.RowKit
set_option linter.unusedVariables false

def cbd (k : Int) : Prop := 0 ≤ k ∧ k ≤ 9
theorem cbd_of {k : Int} (h : k = 0 ∨ k = 1 ∨ k = 2 ∨ k = 3 ∨ k = 4 ∨ k = 5 ∨ k = 8 ∨ k = 9) : cbd k := by unfold cbd; omega
theorem verK_bd (h : Hd) (k : Int) : cbd (verK h k) := by
  unfold verK
  split
  · split
    · exact cbd_of (by omega)
    · exact cbd_of (by omega)
  · exact cbd_of (by omega)
theorem entErr_bd (e : Ent) : cbd e.err := by
  unfold Ent.err
  split
  · exact cbd_of (by omega)
  · exact cbd_of (by omega)
theorem firstErr_bd : ∀ l : List Ent, cbd (firstErr l)
  | [] => cbd_of (.inl rfl)
  | e :: l => by
    unfold firstErr
    split
    · exact firstErr_bd l
    · exact entErr_bd e
theorem gcheck_bd (r1 o r n : Int) (p : List Int) : cbd (gcheck r1 o r n p) := by
  unfold gcheck
  split
  · exact cbd_of (by omega)
  · split
    · exact cbd_of (by omega)
    · split
      · exact cbd_of (by omega)
      · split
        · exact cbd_of (by omega)
        · exact cbd_of (by omega)
theorem settle_bd (m : Mi) : cbd (m.settle).2 := by
  unfold Mi.settle
  split
  · exact cbd_of (k := 8) (by omega)
  · exact cbd_of (k := 0) (by omega)
theorem hear_bd (m : Mi) (r : Rp) : cbd (m.hear r).2 := by
  unfold Mi.hear
  split
  · exact cbd_of (k := 0) (by omega)
  · split
    · exact cbd_of (k := 3) (by omega)
    · split
      · unfold Mi.hearH
        split
        · exact verK_bd _ _
        · split
          · exact cbd_of (k := 3) (by omega)
          · split
            · exact cbd_of (k := 0) (by omega)
            · split
              · exact cbd_of (k := 0) (by omega)
              · exact cbd_of (k := 0) (by omega)
      · split
        · unfold Mi.hearE
          split
          · exact cbd_of (k := 3) (by omega)
          · split
            · exact firstErr_bd _
            · split
              · exact settle_bd _
              · exact cbd_of (k := 0) (by omega)
        · unfold Mi.hearP
          split
          · exact gcheck_bd _ _ _ _ _
          · exact settle_bd _
theorem texV_size (l : List Int) : (textsV l).size ≤ 1 + l.length * 9 := by
  unfold textsV
  split
  · show 1 ≤ _; omega
  · have := jnB_hex_size l; omega
theorem sumV_size (l : List Int) (k : Int) : (sumsV l k).size ≤ 1 + l.length * 9 := by
  unfold sumsV
  split
  · show 0 ≤ _; omega
  · exact texV_size l
theorem ans_bd {es : List Ent} (hk : entsOk es) (s : ByteArray) : cbd (ansR es 7 0 s).2 ∧ (ansR es 7 0 s).1.size ≤ 40000 := by
  have hlf := leafs_of_ents hk
  have z0 : (⟨#[]⟩ : ByteArray).size = 0 := rfl
  unfold ansR
  split
  · exact ⟨cbd_of (k := 2) (by omega), by show (⟨#[]⟩ : ByteArray).size ≤ _; omega⟩
  · rename_i x ns hx
    rw [shK_ok hk, if_neg (by decide)]
    unfold ansW
    simp only
    split
    · obtain ⟨_, hs, hv, _⟩ := sh_parts (shK_ok hk)
      obtain ⟨_, hok, _⟩ := verK_zero hv
      obtain ⟨a, b, c, d, _, _⟩ := Hd.ok_parts hok
      refine ⟨cbd_of (k := 0) (by omega), ?_⟩
      show (headB (shH es 7 0)).size ≤ _
      unfold headB
      rw [four4_size, hexT_size, hexT_size]
      have h1 := digB_small 6 (shH es 7 0).size.toNat (by show _ < 10000000; omega)
      have h2 := digB_small 6 (shH es 7 0).time.toNat (by show _ < 10000000; omega)
      omega
    · split
      · obtain ⟨h1, _⟩ := pmV_bd hlf (ns.getD 0 0) (ns.getD 1 0)
        have h2 := sumV_size (pmV (es.map Ent.leaf) (ns.getD 0 0) (ns.getD 1 0)) (pmK (es.map Ent.leaf) (ns.getD 0 0) (ns.getD 1 0))
        refine ⟨?_, by show (sumsV _ _).size ≤ _; omega⟩
        show cbd (pmK _ _ _)
        unfold pmK
        rw [leafsK_ok hlf, if_neg (by decide)]
        split
        · exact cbd_of (by omega)
        · exact cbd_of (by omega)
      · split
        · obtain ⟨h1, _⟩ := gmV_bd hlf (ns.getD 0 0) (ns.getD 1 0)
          have h2 := sumV_size (gmV (es.map Ent.leaf) (ns.getD 0 0) (ns.getD 1 0)) (gmK (es.map Ent.leaf) (ns.getD 0 0) (ns.getD 1 0))
          refine ⟨?_, by show (sumsV _ _).size ≤ _; omega⟩
          show cbd (gmK _ _ _)
          unfold gmK
          rw [leafsK_ok hlf, if_neg (by decide)]
          split
          · exact cbd_of (by omega)
          · exact cbd_of (by omega)
        · split
          · obtain ⟨h1, _⟩ := whV_bd hlf (ns.getD 0 0) (ns.getD 1 0)
            have h2 := sumV_size (wholeV (es.map Ent.leaf) (ns.getD 0 0) (ns.getD 1 0)) (wholeK (es.map Ent.leaf) (ns.getD 0 0) (ns.getD 1 0))
            refine ⟨?_, by show (sumsV _ _).size ≤ _; omega⟩
            show cbd (wholeK _ _ _)
            unfold wholeK
            split
            · exact cbd_of (by omega)
            · exact cbd_of (by omega)
          · split
            · exact ⟨cbd_of (k := 5) (by omega), by show (⟨#[]⟩ : ByteArray).size ≤ _; omega⟩
            · rename_i e he
              split
              · exact ⟨cbd_of (k := 0) (by omega), by show (hexT _).size ≤ _; rw [hexT_size]; omega⟩
              · refine ⟨cbd_of (k := 0) (by omega), ?_⟩
                show (entT e).size ≤ _
                obtain ⟨o1, o2, o3⟩ := hk.2 e (List.mem_of_getElem? he)
                unfold entT
                rw [ByteArray.size_append, ByteArray.size_append]
                have h1 := digB_small 6 e.time.toNat (by show _ < 10000000; omega)
                show (digB e.time.toNat).size + 1 + e.data.size ≤ _
                omega
theorem name_size (k : Int) : (nameT k).size ≤ 9 := by
  unfold nameT
  repeat' split
  all_goals decide
theorem want_bd {m : Mi} (h : m.Good) : 0 ≤ m.want.what ∧ m.want.what ≤ 200 ∧ 0 ≤ m.want.fr ∧ m.want.fr ≤ 200 ∧ 0 ≤ m.want.to_ ∧ m.want.to_ ≤ 200 := by
  have h1 := h.have_le
  have h2 := h.nsz
  have h3 : m.have_ = (m.own.length : Int) + (m.waits.length : Int) := rfl
  have h4 := h.room
  unfold Mi.want
  split
  · exact ⟨by decide, by decide, by decide, by decide, by decide, by decide⟩
  · rename_i hn
    have h5 := h4 hn
    split
    · refine ⟨?_, ?_, ?_, ?_, ?_, ?_⟩ <;> dsimp only <;> omega
    · refine ⟨?_, ?_, ?_, ?_, ?_, ?_⟩ <;> dsimp only <;> omega
theorem line_bd {d : Dk} (h : d.Good) (s : ByteArray) : (∀ k, (lineD d s).2.2 = some k → cbd k) ∧ (lineD d s).2.1.size ≤ 40000 := by
  have z0 : noT.size ≤ 40000 := by decide
  have z1 : okT.size ≤ 40000 := by decide
  have no : ∀ o : Option Int, (∀ k, o = some k → cbd k) → ((∀ k, o = some k → cbd k) ∧ noT.size ≤ 40000) := fun o h => ⟨h, z0⟩
  have stp : ∀ b, (∀ k, (stepD d b).2.2 = some k → cbd k) ∧ (stepD d b).2.1.size ≤ 40000 := fun b => by
    rw [stepD_ok h]
    exact ⟨fun k e => by injection e with e; subst e; exact hear_bd _ _, z1⟩
  unfold lineD
  split
  · unfold aloneD
    split
    · obtain ⟨a, b, c, d', e, f⟩ := want_bd h.m
      refine ⟨fun k e => by injection e with e; subst e; exact cbd_of (by omega), ?_⟩
      show (wantT d.m.want).size ≤ _
      unfold wantT
      simp only [ByteArray.size_append]
      have h1 := digB_small 2 d.m.want.what.toNat (by show _ < 1000; omega)
      have h2 := digB_small 2 d.m.want.fr.toNat (by show _ < 1000; omega)
      have h3 := digB_small 2 d.m.want.to_.toNat (by show _ < 1000; omega)
      show _ + 1 + _ + 1 + _ ≤ _
      omega
    · split
      · exact stp false
      · split
        · exact stp true
        · split
          · refine ⟨fun k e => by injection e with e; subst e; exact cbd_of (by omega), ?_⟩
            show (stateT d.m).size ≤ _
            unfold stateT
            simp only [ByteArray.size_append]
            have h1 := digB_small 2 d.m.own.length (by show _ < 1000; have := h.m.own_le; omega)
            rw [hexT_size]
            show _ + 1 + _ ≤ _
            omega
          · exact no none (fun k e => by cases e)
  · split
    · unfold addD
      split
      · exact no none (fun k e => by cases e)
      · split
        · exact no none (fun k e => by cases e)
        · split
          · exact no (some _) (fun k e => by injection e with e; subst e; exact entErr_bd _)
          · split
            · exact no (some _) (fun k e => by injection e with e; subst e; exact cbd_of (by omega))
            · exact ⟨fun k e => by injection e with e; subst e; exact cbd_of (by omega), z1⟩
    · split
      · obtain ⟨h1, h2⟩ := ans_bd h.es (wordV s).2.1
        exact ⟨fun k e => by injection e with e; subst e; exact h1, h2⟩
      · split
        · refine ⟨fun k e => by injection e with e; subst e; unfold keyK; split <;> (try split) <;> exact cbd_of (by omega), ?_⟩
          show (bitsR _).size ≤ _
          unfold bitsR
          split
          · rw [bitsS_size]; omega
          · exact z0
        · exact no none (fun k e => by cases e)
theorem ansD_size {d : Dk} (h : d.Good) (s : ByteArray) : (ansD d s).size ≤ 40000 := by
  obtain ⟨_, h2⟩ := line_bd h s
  unfold ansD outT
  split
  · decide
  · split
    · exact h2
    · rename_i k _ _
      have := name_size k
      omega
theorem playD_size : ∀ (ls : List (List UInt8)) {d : Dk} (out : ByteArray), d.Good → (playD d out ls).2.size ≤ out.size + ls.length * 40001
  | [], d, out, h => by show out.size ≤ _; omega
  | l :: ls, d, out, h => by
    have h1 := playD_size ls (out ++ ansD d (baS l) ++ nlT) (nextD_good h (baS l))
    have h2 := ansD_size h (baS l)
    rw [ByteArray.size_append, ByteArray.size_append] at h1
    have h3 : nlT.size = 1 := rfl
    show (playD _ _ ls).2.size ≤ _
    rw [List.length_cons]
    omega
theorem runT_size (t : ByteArray) : (runT t).size ≤ 200000000 := by
  unfold runT
  split
  · decide
  · rename_i h
    have h1 := playD_size (linesL t.data.toList) noT dk0_good
    have h2 := linesL_len t.data.toList
    have h3 : t.data.toList.length = t.size := rfl
    have h4 : noT.size = 0 := rfl
    have h5 : (linesL t.data.toList).length * 40001 ≤ 3000 * 40001 := Nat.mul_le_mul_right _ (by omega)
    omega
end Go.Proofs.YtnphbkjkeipmmaaGreatDoor
