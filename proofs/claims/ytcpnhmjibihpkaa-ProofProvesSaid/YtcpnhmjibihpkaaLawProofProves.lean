import Derived.Test.YtcpnhmjibihpkaaWay
import Derived.Deep.DeepCutAuto
namespace Go.Proofs.Ytcpnhmjibihpkaa.proofProves
open Go.RowKit Go.WideShapes
set_option linter.unusedVariables false

theorem nth_set_eq {ps : List Int} {j : Nat} {u : Int} (h : j < ps.length) : nthI (ps.set j u) j = u := by
  unfold nthI; rw [List.getD_eq_getElem?_getD, List.getElem?_set_self h]; rfl
theorem nth_set_ne {ps : List Int} {j j' : Nat} {u : Int} (h : j' ≠ j) : nthI (ps.set j u) j' = nthI ps j' := by
  unfold nthI; rw [List.getD_eq_getElem?_getD, List.getD_eq_getElem?_getD, List.getElem?_set_ne (Ne.symm h)]
theorem allV_set {ps : List Int} {j : Nat} {u : Int} (h : allV ps = true) (hu : vld u = true) : allV (ps.set j u) = true := by
  unfold allV at *
  rw [List.all_eq_true] at *
  intro x hx
  rcases List.mem_or_eq_of_mem_set hx with h' | h'
  · exact h x h'
  · rw [h']; exact hu

/-- what a changed proof that holds tells -/
theorem changed {i m k j : Nat} {z u root : Int} {ps : List Int} (hk : k = stepsN i m) (hm : m ≤ 4096) (hl : ps.length = k) (hj : j < k) (h1 : upL i m z ps = root) (h2 : upL i m z (ps.set j u) = root) :
    upF (turnL i m) (nthI ps) (k - (j + 1)) (j + 1) (stepL (turnL i m j) (upF (turnL i m) (nthI ps) j 0 z) (nthI ps j)) = upF (turnL i m) (nthI ps) (k - (j + 1)) (j + 1) (stepL (turnL i m j) (upF (turnL i m) (nthI ps) j 0 z) u) := by
  have e1 := upL_upF m i m z ps (Nat.le_refl _) hm (by omega)
  have e2 := upL_upF m i m z (ps.set j u) (Nat.le_refl _) hm (by rw [List.length_set]; omega)
  rw [h1, ← hk, show k = j + ((k - (j + 1)) + 1) by omega, upF_add] at e1
  rw [h2, ← hk, show k = j + ((k - (j + 1)) + 1) by omega, upF_add] at e2
  rw [upF_congr (p := nthI (ps.set j u)) (p' := nthI ps) (t' := turnL i m) j 0 z (fun j' _ h => ⟨rfl, nth_set_ne (by omega)⟩)] at e2
  rw [Nat.zero_add] at e1 e2
  have e3 : root = upF (turnL i m) (nthI ps) (k - (j + 1)) (j + 1) (stepL (turnL i m j) (upF (turnL i m) (nthI ps) j 0 z) (nthI ps j)) := e1
  have e4 : root = upF (turnL i m) (nthI (ps.set j u)) (k - (j + 1)) (j + 1) (stepL (turnL i m j) (upF (turnL i m) (nthI ps) j 0 z) (nthI (ps.set j u) j)) := e2
  rw [nth_set_eq (by omega), upF_congr (p := nthI (ps.set j u)) (p' := nthI ps) (t' := turnL i m) _ _ _ (fun j' h _ => ⟨rfl, nth_set_ne (by omega)⟩)] at e4
  rw [← e3, ← e4]

theorem fact_ok : leafsOk [5, 6] := ⟨by decide, by decide⟩
theorem fact_way : wayL (([5, 6] : List Int).take (2 : Int).toNat) (0 : Int).toNat = [6] := by
  show wayL [5, 6] 0 = [6]
  have hh : half 2 = 1 := by decide
  rw [wayL_left (by decide) (by decide) (by show 0 < half 2; rw [hh]; decide)]
  show wayL (List.take (half 2) [5, 6]) 0 ++ [ofL (List.drop (half 2) [5, 6])] = [6]
  rw [hh]
  show wayL [5] 0 ++ [ofL [6]] = [6]
  rw [wayL_one (by decide), ofL_one]
  rfl

/-- three places of the code's start, alike in all ways -/
theorem two_rd (w : World) : Rd (w.alloc (.cells #[.int .i64 5, .int .i64 6] 3)) 1 (some ⟨w.heap.size, 0, none⟩) 2 2 (([5, 6] : List Int).map (Value.int .i64)) :=
  ⟨rfl, Nat.le_refl _, fun _ => ⟨_, rfl, by simp, news_new w 3 _ _ rfl⟩⟩

set_option maxRecDepth 100000 in
set_option maxHeartbeats 2000000 in
theorem walk_no (A : Option Addr) (n c : Nat) (xs : List Int) (i size at_ tt other : Int) (w : World) (hr : Rd w 1 A n c (xs.map (Value.int .i64))) (hm : c ≤ maxLen) (h : ¬ (leafsOk xs ∧ 0 ≤ i ∧ i < size ∧ size ≤ n)) :
    Calls Try.prog 10 #[.slice A n c, .int .i64 i, .int .i64 size, .int .i64 at_, .int .i64 tt, .int .i64 other] w fun e w' => e = .returned (.bool true) ∧ Ext w w' := by
  have H : ∃ k : Int, Hid (∀ W, Ext w W → Calls Try.prog 33 #[.slice A n c, .int .i64 i, .int .i64 size] W fun e w' => e = .returned (.tuple #[.slice none 0 0, errV k]) ∧ Ext W w') := by
    by_cases hk : leafsOk xs
    · exact ⟨1, fun W e => PMake_range A n c xs i size W (hr.ext e) hm hk fun hh => h ⟨hk, hh⟩⟩
    · exact ⟨_, fun W e => PMake_bad A n c xs i size W (hr.ext e) hm hk⟩
  obtain ⟨k, H⟩ := H
  clear h
  have HW : Hid (wayL (([5, 6] : List Int).take (2 : Int).toNat) (0 : Int).toNat = [6]) := fact_way
  go_enter Try.func10, Try.ntmps10
  go_wp2_with fail
  refine (PMake_ok _ 2 2 [5, 6] 0 2 _ (two_rd w) (by simp [maxLen]) fact_ok (by omega) (by omega) (by omega)).mono ?_
  rintro e w1 ⟨⟨v, rfl, hv⟩, hb1⟩
  rw [HW.out] at hv
  obtain ⟨A1, c1, rfl, hc1, R1⟩ := hv.rd
  obtain ⟨ad1, rfl, hbb1, hcell1⟩ := R1.getI (j := 0) rfl
  rw [add_zero'] at hcell1
  rw [List.length_singleton]
  go_wp2_with fail
  refine (H.out _ (by (repeat (with_reducible first | exact Ext.refl _ | assumption | refine Ext.drew ?_ | refine Ext.drewN ?_ _ | refine Ext.alloc ?_ _ | refine Ext.trans ?_ (by with_reducible assumption))))).mono ?_
  rintro e w2 ⟨rfl, hb2⟩
  simp only [errV]
  go_wp2_with fail
  go_ret
  exact ⟨rfl, by (repeat (with_reducible first | exact Ext.refl _ | assumption | refine Ext.drew ?_ | refine Ext.drewN ?_ _ | refine Ext.alloc ?_ _ | refine Ext.trans ?_ (by with_reducible assumption)))⟩

/-- another leaf that is proved, too -/
def Oth (other z root : Int) (m i : Nat) (ps : List Int) : Prop := 0 ≤ other ∧ other < 2147483647 ∧ other ≠ z ∧ pcheck root m i other ps = 0
instance (other z root : Int) (m i : Nat) (ps : List Int) : Decidable (Oth other z root m i ps) := by unfold Oth; infer_instance
theorem oth_cases (other z root : Int) (m i : Nat) (ps : List Int) : (other < 0 ∧ Hid (decide (Oth other z root m i ps) = false)) ∨ (0 ≤ other ∧ 2147483647 ≤ other ∧ Hid (decide (Oth other z root m i ps) = false)) ∨ (0 ≤ other ∧ other < 2147483647 ∧ other = z ∧ Hid (decide (Oth other z root m i ps) = false)) ∨
    (0 ≤ other ∧ other < 2147483647 ∧ other ≠ z ∧ Hid (errR (pcheck root m i other ps) = errV (pcheck root m i other ps)) ∧ Hid (decide (Oth other z root m i ps) = false)) ∨ (0 ≤ other ∧ other < 2147483647 ∧ other ≠ z ∧ Hid (errR (pcheck root m i other ps) = .nilIface) ∧ Hid (decide (Oth other z root m i ps) = true)) := by
  by_cases h1 : other < 0
  · exact .inl ⟨h1, decide_eq_false fun h => by have := h.1; omega⟩
  by_cases h2 : 2147483647 ≤ other
  · exact .inr (.inl ⟨by omega, h2, decide_eq_false fun h => by have := h.2.1; omega⟩)
  by_cases h3 : other = z
  · exact .inr (.inr (.inl ⟨by omega, by omega, h3, decide_eq_false fun h => h.2.2.1 h3⟩))
  by_cases h4 : pcheck root m i other ps = 0
  · refine .inr (.inr (.inr (.inr ⟨by omega, by omega, h3, ?_, decide_eq_true ⟨by omega, by omega, h3, h4⟩⟩)))
    show _ = _; rw [h4]; rfl
  · exact .inr (.inr (.inr (.inl ⟨by omega, by omega, h3, errR_ne h4, decide_eq_false fun h => h4 h.2.2.2⟩)))

set_option maxRecDepth 100000 in
set_option maxHeartbeats 4000000 in
theorem walk_yes (A : Option Addr) (n c : Nat) (xs : List Int) (i m : Nat) (at_ tt other : Int) (w : World) (hr : Rd w 1 A n c (xs.map (Value.int .i64))) (hm : c ≤ maxLen) (hk : leafsOk xs) (h1 : i < m) (h2 : m ≤ n) :
    Calls Try.prog 10 #[.slice A n c, .int .i64 i, .int .i64 m, .int .i64 at_, .int .i64 tt, .int .i64 other] w fun e w' => e = .returned (.bool true) ∧ Ext w w' := by
  have hx := hr.lenI
  have hn : n ≤ 200 := by have := hk.1; omega
  have hl := hr.2.1
  have hz := nthI_get (p := xs) (k := i) (by omega)
  obtain ⟨ad, rfl, hb, hcell⟩ := hr.getI hz
  have vz := allV_get hk.2 hz
  have hzt : (xs.take m)[i]? = some (nthI xs i) := by rw [List.getElem?_take, if_pos h1]; exact hz
  have hlt : (xs.take m).length = m := by rw [List.length_take]; omega
  have hps := wayL_len m (xs.take m) i (by omega) (by omega)
  have hup := up_way m (xs.take m) i _ (by omega) (by omega) hzt
  rw [hlt] at hps hup
  have vps := allV_way m (xs.take m) i (by omega) (by omega) (allV_take hk.2 m)
  have vro := vld_ofL (allV_take hk.2 m) (by omega)
  have hst := stepsN_lt m i m (Nat.le_refl _) (by omega) (by omega)
  have HP := Lib.hid fun (W : World) (e : Ext w W) => PMake_ok (some ad) n c xs i m W (hr.ext e) hm hk (by omega) (by omega) (by omega)
  have lok : leafsOk (xs.take m) := ⟨by omega, allV_take hk.2 m⟩
  have HR := Lib.hid fun (W : World) (e : Ext w W) => Root_ok (some ad) m c (xs.take m) W ((hr.takeI h2).ext e) hm lok
  have HS := Lib.hid fun (W : World) => Steps_ok i m W (by omega) (by omega) (by omega)
  simp only [Int.toNat_natCast] at HP HS
  generalize nthI xs i = z at *
  generalize wayL (xs.take m) i = ps at *
  generalize ofL (xs.take m) = root at *
  have HC0 : Hid (pcheck root m i z ps = 0) := by
    show _ = _
    exact pcheck_ok ⟨by omega, by omega, by omega⟩ ⟨vro, vz, vps⟩ (by rw [Int.toNat_natCast, Int.toNat_natCast]; exact hps) (by rw [Int.toNat_natCast, Int.toNat_natCast]; exact hup)
  have HZ := Lib.hid hz
  have HZT := Lib.hid hzt
  have HPS := Lib.hid hps
  have HUP := Lib.hid hup
  have HX := Lib.hid hx
  have HLT := Lib.hid hlt
  clear hz hzt hps hup hx hlt
  have HW : Hid (wayL (([5, 6] : List Int).take (2 : Int).toNat) (0 : Int).toNat = [6]) := fact_way
  have q1 : (m : Int) ≤ (n : Int) := by omega
  have q2 : (m : Int) ≤ (c : Int) := by omega
  have q3 : (n : Int) ≤ (c : Int) := by omega
  have q4 : (i : Int) < (n : Int) := by omega
  have q5 : (i : Int) < (m : Int) := by omega
  have q6 : i < n := by omega
  go_enter Try.func10, Try.ntmps10
  go_wp2_with fail
  refine (PMake_ok _ 2 2 [5, 6] 0 2 _ (two_rd w) (by simp [maxLen]) fact_ok (by omega) (by omega) (by omega)).mono ?_
  rintro e w1 ⟨⟨v, rfl, hv⟩, hb1⟩
  rw [HW.out] at hv
  obtain ⟨A1, c1, rfl, hc1, R1⟩ := hv.rd
  obtain ⟨ad1, rfl, hbb1, hcell1⟩ := R1.getI (j := 0) rfl
  rw [add_zero'] at hcell1
  rw [List.length_singleton]
  go_wp2_with fail
  refine (HP.out _ (by (repeat (with_reducible first | exact Ext.refl _ | assumption | refine Ext.drew ?_ | refine Ext.drewN ?_ _ | refine Ext.alloc ?_ _ | refine Ext.trans ?_ (by with_reducible assumption))))).mono ?_
  rintro e w2 ⟨⟨v, rfl, hv⟩, hb2⟩
  obtain ⟨A2, c2, rfl, hc2, R2⟩ := hv.rd
  go_wp2_with fail
  refine (HR.out _ (by (repeat (with_reducible first | exact Ext.refl _ | assumption | refine Ext.drew ?_ | refine Ext.drewN ?_ _ | refine Ext.alloc ?_ _ | refine Ext.trans ?_ (by with_reducible assumption))))).mono ?_
  rintro e w3 ⟨rfl, hb3⟩
  go_wp2_with fail
  refine (HS.out _).mono ?_
  rintro e w4 ⟨rfl, hb4⟩
  rw [HPS.out]
  have R2' : Rd w2 1 A2 (stepsN i m) c2 (ps.map (Value.int .i64)) := by have := R2; rwa [HPS.out] at this
  clear R2
  have hcell4 : w4.cell? (ad.add i) = some (.int .i64 z) := (Ext.cell (a := w) (by (repeat (with_reducible first | exact Ext.refl _ | assumption | refine Ext.drew ?_ | refine Ext.drewN ?_ _ | refine Ext.alloc ?_ _ | refine Ext.trans ?_ (by with_reducible assumption)))) (by rw [blk_add]; exact hb)).trans hcell
  have q7 : ((stepsN i m : Nat) : Int) ≤ 200 := by omega
  go_upto_region 13 with (go_at_call 35; refine (PCheck_any _ _ _ _ A2 _ c2 ps _ (by exact R2'.ext (by (repeat (with_reducible first | exact Ext.refl _ | assumption | refine Ext.drew ?_ | refine Ext.drewN ?_ _ | refine Ext.alloc ?_ _ | refine Ext.trans ?_ (by with_reducible assumption))))) hc2).mono ?_; rw [HC0.out]; rintro e w5 ⟨rfl, hb5⟩; simp only [errR_0])
  have hcell5 : w5.cell? (ad.add i) = some (.int .i64 z) := (Ext.cell (a := w) (by (repeat (with_reducible first | exact Ext.refl _ | assumption | refine Ext.drew ?_ | refine Ext.drewN ?_ _ | refine Ext.alloc ?_ _ | refine Ext.trans ?_ (by with_reducible assumption)))) (by rw [blk_add]; exact hb)).trans hcell
  go_cut [127] (fun v wc => v = .bool (decide (Oth other z root m i ps)) ∧ Ext w5 wc)
  case first =>
    rcases oth_cases other z root m i ps with ⟨t1, t9⟩ | ⟨t1, t2, t9⟩ | ⟨t1, t2, t3, t9⟩ | ⟨t1, t2, t3, t4, t9⟩ | ⟨t1, t2, t3, t4, t9⟩
    · go_wp2_with fail
      go_meet
      exact ⟨by rw [t9.out], by (repeat (with_reducible first | exact Ext.refl _ | assumption | refine Ext.drew ?_ | refine Ext.drewN ?_ _ | refine Ext.alloc ?_ _ | refine Ext.trans ?_ (by with_reducible assumption)))⟩
    · go_wp2_with fail
      go_meet
      exact ⟨by rw [t9.out], by (repeat (with_reducible first | exact Ext.refl _ | assumption | refine Ext.drew ?_ | refine Ext.drewN ?_ _ | refine Ext.alloc ?_ _ | refine Ext.trans ?_ (by with_reducible assumption)))⟩
    · subst t3
      go_wp2_with fail
      go_meet
      exact ⟨by rw [t9.out], by (repeat (with_reducible first | exact Ext.refl _ | assumption | refine Ext.drew ?_ | refine Ext.drewN ?_ _ | refine Ext.alloc ?_ _ | refine Ext.trans ?_ (by with_reducible assumption)))⟩
    · go_wp2_with (go_at_call 35; refine (PCheck_any _ _ _ _ A2 _ c2 ps _ (by exact R2'.ext (by (repeat (with_reducible first | exact Ext.refl _ | assumption | refine Ext.drew ?_ | refine Ext.drewN ?_ _ | refine Ext.alloc ?_ _ | refine Ext.trans ?_ (by with_reducible assumption))))) hc2).mono ?_; rw [t4.out]; rintro e w6 ⟨rfl, hb6⟩; simp only [errV])
      go_meet
      exact ⟨by rw [t9.out], by (repeat (with_reducible first | exact Ext.refl _ | assumption | refine Ext.drew ?_ | refine Ext.drewN ?_ _ | refine Ext.alloc ?_ _ | refine Ext.trans ?_ (by with_reducible assumption)))⟩
    · go_wp2_with (go_at_call 35; refine (PCheck_any _ _ _ _ A2 _ c2 ps _ (by exact R2'.ext (by (repeat (with_reducible first | exact Ext.refl _ | assumption | refine Ext.drew ?_ | refine Ext.drewN ?_ _ | refine Ext.alloc ?_ _ | refine Ext.trans ?_ (by with_reducible assumption))))) hc2).mono ?_; rw [t4.out]; rintro e w6 ⟨rfl, hb6⟩)
      go_meet
      exact ⟨by rw [t9.out]; simp [t3], by (repeat (with_reducible first | exact Ext.refl _ | assumption | refine Ext.drew ?_ | refine Ext.drewN ?_ _ | refine Ext.alloc ?_ _ | refine Ext.trans ?_ (by with_reducible assumption)))⟩
  case rest =>
    obtain ⟨rfl, hbc⟩ := hcut
    have hcellc : wc.cell? (ad.add i) = some (.int .i64 z) := (Ext.cell (a := w) (by (repeat (with_reducible first | exact Ext.refl _ | assumption | refine Ext.drew ?_ | refine Ext.drewN ?_ _ | refine Ext.alloc ?_ _ | refine Ext.trans ?_ (by with_reducible assumption)))) (by rw [blk_add]; exact hb)).trans hcell
    have Rc : Rd wc 1 A2 (stepsN i m) c2 (ps.map (Value.int .i64)) := R2'.ext (by (repeat (with_reducible first | exact Ext.refl _ | assumption | refine Ext.drew ?_ | refine Ext.drewN ?_ _ | refine Ext.alloc ?_ _ | refine Ext.trans ?_ (by with_reducible assumption))))
    have hbwc : Ext w wc := by (repeat (with_reducible first | exact Ext.refl _ | assumption | refine Ext.drew ?_ | refine Ext.drewN ?_ _ | refine Ext.alloc ?_ _ | refine Ext.trans ?_ (by with_reducible assumption)))
    have vz' := vz
    clear hcell hcell4 hcell5 R2' hb1 hb2 hb3 hb4 hb5 hbc hcell1 R1 hv HP HR HS HW
    cases hd : decide (Oth other z root m i ps)
    · clear hd
      have hk200 : stepsN i m ≤ 200 := by omega
      by_cases a1 : at_ < 0
      · go_wp2_with fail
        go_ret
        exact ⟨rfl, by (repeat (with_reducible first | exact Ext.refl _ | assumption | refine Ext.drew ?_ | refine Ext.drewN ?_ _ | refine Ext.alloc ?_ _ | refine Ext.trans ?_ (by with_reducible assumption)))⟩
      obtain ⟨j, rfl⟩ := Int.eq_ofNat_of_zero_le (show 0 ≤ at_ by omega)
      clear a1
      by_cases a2 : stepsN i m ≤ j
      · have a2' : ((stepsN i m : Nat) : Int) ≤ (j : Int) := by omega
        go_wp2_with fail
        go_ret
        exact ⟨rfl, by (repeat (with_reducible first | exact Ext.refl _ | assumption | refine Ext.drew ?_ | refine Ext.drewN ?_ _ | refine Ext.alloc ?_ _ | refine Ext.trans ?_ (by with_reducible assumption)))⟩
      have a2' : (j : Int) < ((stepsN i m : Nat) : Int) := by omega
      have hjn := nthI_get (p := ps) (k := j) (by have := HPS.out; omega)
      obtain ⟨ad2, rfl, hb2, hcell2⟩ := Rc.getI hjn
      have vj := allV_get vps hjn
      by_cases b1 : tt < 0
      · go_wp2_with fail
        go_ret
        exact ⟨rfl, by (repeat (with_reducible first | exact Ext.refl _ | assumption | refine Ext.drew ?_ | refine Ext.drewN ?_ _ | refine Ext.alloc ?_ _ | refine Ext.trans ?_ (by with_reducible assumption)))⟩
      by_cases b2 : 2147483647 ≤ tt
      · go_wp2_with fail
        go_ret
        exact ⟨rfl, by (repeat (with_reducible first | exact Ext.refl _ | assumption | refine Ext.drew ?_ | refine Ext.drewN ?_ _ | refine Ext.alloc ?_ _ | refine Ext.trans ?_ (by with_reducible assumption)))⟩
      by_cases b3 : tt = nthI ps j
      · subst b3
        go_wp2_with fail
        go_ret
        exact ⟨rfl, by (repeat (with_reducible first | exact Ext.refl _ | assumption | refine Ext.drew ?_ | refine Ext.drewN ?_ _ | refine Ext.alloc ?_ _ | refine Ext.trans ?_ (by with_reducible assumption)))⟩
      have b3' : (tt == nthI ps j) = false := by simp [b3]
      have vt := vld_mk (n := tt) ⟨by omega, by omega⟩
      have vq := allV_set (j := j) vps vt
      obtain ⟨i0, hi0, hz0, hz1, hz2⟩ := info_parts info_int
      have hnews := Rc.2.2 (by omega)
      have hl2 : stepsN i m ≤ c2 := Rc.2.1
      obtain ⟨ad2', e2, _, hnews⟩ := hnews
      obtain rfl : ad2 = ad2' := by injection e2
      clear e2
      have h1c : ∀ u ∈ ps.map (Value.int .i64), u.oneCell' = true := by
        intro u hu
        rw [List.mem_map] at hu
        obtain ⟨x, _, rfl⟩ := hu
        rfl
      have HN := Lib.hid hnews
      have H1C := Lib.hid h1c
      have hkk : 0 < stepsN i m := by omega
      clear hnews h1c
      go_wp2_with (at_builtin; refine wpList_append_lies _ (by rfl) _ _ _ (by rfl) wc.heap.size 3 i0 _ 1 8 Try.underlying48 hi0 hz0 hz1 hz2 rfl (by omega) (.slice none 0 0) 0 [] (by rfl) (own_nil _ _ _ _) ad2 (stepsN i m) c2 (ps.map (Value.int .i64)) (by rfl) (by rw [List.length_map, HPS.out, Nat.mul_one]) HN.out H1C.out hkk (by simp only [maxLen]; omega) (by omega) (Nat.le_refl _) _ rfl ?_; intro g cap w6 own6 hgr6 _ hlt6; rw [Nat.zero_add, List.nil_append] at own6; rw [Nat.zero_add]; have hcj := own6.cellAt j (by omega); have hfj := own6.frozenAt j; have hb6 : Ext wc w6 := (Ext.refl wc).grown hgr6 (by intro k hk; simp [Value.ownBlock] at hk); have hg6 : wc.heap.size ≤ g := own_block own6 g rfl; have E7 : Ext wc (w6.setCell ⟨g, j, none⟩ (.int .i64 tt)) := hb6.setCell (p := ⟨g, j, none⟩) hg6 _; have own7 := (own6.stored j (.int .i64 tt)).1; have hcell7 := (Ext.cell (p := ad.add i) E7 (by rw [blk_add]; have := hbwc.size; omega)).trans hcellc)
      rw [← List.map_set] at own7
      have R7 := (own_rd own7)
      obtain ⟨A7, c7, e7, hc7, R7, _⟩ := R7
      obtain ⟨rfl, rfl⟩ : A7 = some ⟨g, 0, none⟩ ∧ c7 = cap := by injection e7 with e1 e2 e3; exact ⟨e1.symm, e3.symm⟩
      have Rp7 := Rc.ext E7
      have E70 := hbwc.trans E7
      clear hfj hcj own6 own7 hgr6 hlt6 hb6 e7 HN H1C Rc hcell2
      generalize w6.setCell ⟨g, j, none⟩ (.int .i64 tt) = w7 at *
      by_cases hq : pcheck root m i z (ps.set j tt) = 0
      · have HQ : Hid (errR (pcheck root m i z (ps.set j tt)) = .nilIface) := by show _ = _; rw [hq]; rfl
        have hu2 := (pcheck_zero hq).2.2.2
        rw [Int.toNat_natCast, Int.toNat_natCast] at hu2
        have HCH := Lib.hid (changed (k := stepsN i m) (j := j) rfl (by omega) HPS.out (by omega) HUP.out hu2)
        have va := vld_upF (turnL i m) (nthI ps) j 0 z vz
        have HB : stepB (turnL i m j) (upF (turnL i m) (nthI ps) j 0 z) (nthI ps j) ≠ stepB (turnL i m j) (upF (turnL i m) (nthI ps) j 0 z) tt := fun e => b3 (stepB_inj va vj va vt e).2.symm
        have S1 := Lib.hid fun (W : World) (e : Ext w7 W) => RStep_any (upF (turnL i m) (nthI ps) j 0 z) i m _ _ c2 ps j W (Rp7.ext e) h1 (by omega) rfl (by omega) va vps
        have S2 := Lib.hid fun (W : World) (e : Ext w7 W) => RStep_any (upF (turnL i m) (nthI ps) j 0 z) i m _ _ _ (ps.set j tt) j W (R7.ext e) h1 (by omega) rfl (by omega) va vq
        have S0 := Lib.hid fun (W : World) (e : Ext w7 W) (k : Nat) (hk : k < j) => RStep_any (upF (turnL i m) (nthI ps) k 0 z) i m _ _ c2 ps k W (Rp7.ext e) h1 (by omega) rfl (by omega) (vld_upF _ _ k 0 z vz) vps
        rw [nth_set_eq (by rw [HPS.out]; omega)] at S2
        have HUS := Lib.hid fun (k : Nat) => upF_snoc (turnL i m) (nthI ps) k 0 z
        have vx := vld_stepL (turnL i m j) (upF (turnL i m) (nthI ps) j 0 z) (nthI ps j)
        have vy := vld_stepL (turnL i m j) (upF (turnL i m) (nthI ps) j 0 z) tt
        have hse : (!(strB (stepB (turnL i m j) (upF (turnL i m) (nthI ps) j 0 z) (nthI ps j))).toList == (strB (stepB (turnL i m j) (upF (turnL i m) (nthI ps) j 0 z) tt)).toList) = true := by rw [(Lib.bytes_beq_false_iff _ _).2 (strB_ne HB)]; rfl
        clear hq hu2 HB
        generalize stepL (turnL i m j) (upF (turnL i m) (nthI ps) j 0 z) (nthI ps j) = x at *
        generalize stepL (turnL i m j) (upF (turnL i m) (nthI ps) j 0 z) tt = y at *
        generalize strB (stepB (turnL i m j) (upF (turnL i m) (nthI ps) j 0 z) (nthI ps j)) = sx at *
        generalize strB (stepB (turnL i m j) (upF (turnL i m) (nthI ps) j 0 z) tt) = sy at *
        refine (PCheck_any _ _ _ _ _ _ _ _ _ R7 hc7).mono ?_
        rw [HQ.out]
        rintro e w8 ⟨rfl, hb8⟩
        have hcell8 := (Ext.cell (p := ad.add i) hb8 (by rw [blk_add]; have := E70.size; omega)).trans hcell7
        go_wp2_with fail
        go_loopw [22, 23] (fun a q wr => ∃ k : Nat, a = .int .i64 (upF (turnL i m) (nthI ps) k 0 z) ∧ q = .int .i64 k ∧ k ≤ j ∧ Ext w7 wr) (fun _ q _ => j - (intOf q).toNat)
        case atStart => exact ⟨0, rfl, rfl, Nat.zero_le _, by (repeat (with_reducible first | exact Ext.refl _ | assumption | refine Ext.drew ?_ | refine Ext.drewN ?_ _ | refine Ext.alloc ?_ _ | refine Ext.trans ?_ (by with_reducible assumption)))⟩
        case round =>
          obtain ⟨k, rfl, rfl, hkj, hbk⟩ := hrel
          by_cases hlt : k < j
          · go_wp2_with fail
            refine (S0.out _ (by (repeat (with_reducible first | exact Ext.refl _ | assumption | refine Ext.drew ?_ | refine Ext.drewN ?_ _ | refine Ext.alloc ?_ _ | refine Ext.trans ?_ (by with_reducible assumption)))) k hlt).mono ?_
            rintro e w9 ⟨rfl, hb9⟩
            go_wp2_with fail
            go_roundw
            case rel => exact ⟨k + 1, by rw [HUS.out k, Nat.zero_add], by go_num, by omega, by (repeat (with_reducible first | exact Ext.refl _ | assumption | refine Ext.drew ?_ | refine Ext.drewN ?_ _ | refine Ext.alloc ?_ _ | refine Ext.trans ?_ (by with_reducible assumption)))⟩
            case measure => simp [intOf]; omega
          · obtain rfl : k = j := by omega
            go_wp2_with fail
            refine (S1.out _ (by (repeat (with_reducible first | exact Ext.refl _ | assumption | refine Ext.drew ?_ | refine Ext.drewN ?_ _ | refine Ext.alloc ?_ _ | refine Ext.trans ?_ (by with_reducible assumption))))).mono ?_
            rintro e w9 ⟨rfl, hb9⟩
            go_wp2_with fail
            refine (S2.out _ (by (repeat (with_reducible first | exact Ext.refl _ | assumption | refine Ext.drew ?_ | refine Ext.drewN ?_ _ | refine Ext.alloc ?_ _ | refine Ext.trans ?_ (by with_reducible assumption))))).mono ?_
            rintro e w10 ⟨rfl, hb10⟩
            by_cases hxy : x = y
            · subst hxy
              go_wp2_with fail
              go_ret
              exact ⟨ret_bool (by simp), E70.trans (by (repeat (with_reducible first | exact Ext.refl _ | assumption | refine Ext.drew ?_ | refine Ext.drewN ?_ _ | refine Ext.alloc ?_ _ | refine Ext.trans ?_ (by with_reducible assumption))))⟩
            · have hxy' : (x == y) = false := by simp [hxy]
              go_wp2_with (go_at_call 36; refine (RMeets_any x y i m _ _ c2 ps (k + 1) _ (by exact Rp7.ext (by (repeat (with_reducible first | exact Ext.refl _ | assumption | refine Ext.drew ?_ | refine Ext.drewN ?_ _ | refine Ext.alloc ?_ _ | refine Ext.trans ?_ (by with_reducible assumption))))) h1 (by omega) rfl (by omega) vx vy vps hxy HCH.out).mono ?_; rintro e w11 ⟨rfl, hb11⟩)
              go_ret
              exact ⟨ret_bool (by simp), E70.trans (by (repeat (with_reducible first | exact Ext.refl _ | assumption | refine Ext.drew ?_ | refine Ext.drewN ?_ _ | refine Ext.alloc ?_ _ | refine Ext.trans ?_ (by with_reducible assumption))))⟩
      · have HQ : Hid (errR (pcheck root m i z (ps.set j tt)) = errV (pcheck root m i z (ps.set j tt))) := errR_ne hq
        clear hq
        refine (PCheck_any _ _ _ _ _ _ _ _ _ R7 hc7).mono ?_
        rw [HQ.out]
        rintro e w8 ⟨rfl, hb8⟩
        simp only [errV]
        go_wp2_with fail
        go_ret
        exact ⟨rfl, by (repeat (with_reducible first | exact Ext.refl _ | assumption | refine Ext.drew ?_ | refine Ext.drewN ?_ _ | refine Ext.alloc ?_ _ | refine Ext.trans ?_ (by with_reducible assumption)))⟩
    · have hO : Oth other z root m i ps := of_decide_eq_true hd
      clear hd
      obtain ⟨o1, o2, o3, o4⟩ := hO
      have hu2 := (pcheck_zero o4).2.2.2
      have vo := vld_mk ⟨o1, o2⟩
      rw [Int.toNat_natCast, Int.toNat_natCast] at hu2
      have HU : Hid (upF (turnL i m) (nthI ps) (stepsN i m - 0) 0 z = upF (turnL i m) (nthI ps) (stepsN i m - 0) 0 other) := by
        show _ = _
        rw [Nat.sub_zero, ← upL_upF m i m z ps (Nat.le_refl _) (by omega) HPS.out, ← upL_upF m i m other ps (Nat.le_refl _) (by omega) HPS.out, HUP.out, hu2]
      clear hu2 o4
      go_wp2_with fail
      refine (RMeets_any z other i m A2 _ c2 ps 0 _ Rc h1 (by omega) rfl (Nat.zero_le _) vz vo vps (Ne.symm o3) HU.out).mono ?_
      rintro e w6 ⟨rfl, hb6⟩
      go_wp2_with fail
      go_ret
      exact ⟨rfl, by (repeat (with_reducible first | exact Ext.refl _ | assumption | refine Ext.drew ?_ | refine Ext.drewN ?_ _ | refine Ext.alloc ?_ _ | refine Ext.trans ?_ (by with_reducible assumption)))⟩

theorem walk (A : Option Addr) (n c : Nat) (xs : List Int) (i size at_ tt other : Int) (w : World) (hl : xs.length = n) (hm : c ≤ maxLen) (hr : Rd w 1 A n c (xs.map (Value.int .i64))) (hg : ∀ y ∈ xs, igood y) (h0 : igood i) (h1 : igood size) (h2 : igood at_) (h3 : igood tt) (h4 : igood other) :
    Calls Try.prog 10 #[.slice A n c, .int .i64 i, .int .i64 size, .int .i64 at_, .int .i64 tt, .int .i64 other] w fun e w' => e = .returned (.bool true) ∧ Ext w w' := by
  by_cases h : leafsOk xs ∧ 0 ≤ i ∧ i < size ∧ size ≤ n
  · obtain ⟨hk, a, b, d⟩ := h
    obtain ⟨i, rfl⟩ := Int.eq_ofNat_of_zero_le a
    obtain ⟨m, rfl⟩ := Int.eq_ofNat_of_zero_le (show 0 ≤ size by omega)
    exact walk_yes A n c xs i m at_ tt other w hr hm hk (by omega) (by omega)
  · exact walk_no A n c xs i size at_ tt other w hr hm h
end Go.Proofs.Ytcpnhmjibihpkaa.proofProves
