import Derived.Test.YtmknpehjncpekaaDoorAt
import Derived.Test.YtmknpehjncpekaaDoorGrown
import Derived.Test.YtmknpehjncpekaaDoorSums0
namespace Go.Proofs.YtmknpehjncpekaaDoor
open Go.RowKit Go.WideShapes
set_option linter.unusedVariables false
attribute [local go_sem ↓] Go.wp_at_zero Go.wp_at_succ

set_option maxRecDepth 100000 in
theorem Steps_ok (i n : Int) (w : World) (h0 : 0 ≤ i) (h1 : i < n) (h2 : n ≤ 200) :
    Calls Tryd.prog 62 #[.int .i64 i, .int .i64 n] w fun e w' => e = .returned (.tuple #[.int .i64 (stepsN i.toNat n.toNat : Nat), .nilIface]) ∧ Ext w w' := by
  obtain ⟨i, rfl⟩ := Int.eq_ofNat_of_zero_le h0
  obtain ⟨n, rfl⟩ := Int.eq_ofNat_of_zero_le (show 0 ≤ n by omega)
  simp only [Int.toNat_natCast]
  have f0 : decide ((i : Int) < 0) = false := by simp
  have f1 : decide (n ≤ i) = false := by simp; omega
  have f2 : decide (200 < (n : Int)) = false := by simp; omega
  go_enter Tryd.func62, Tryd.ntmps62
  go_wp2_with fail
  go_loop [0, 1, 6] (fun a b c => ∃ (i' n' t : Nat), a = .int .i64 i' ∧ b = .int .i64 n' ∧ c = .int .i64 t ∧ i' < n' ∧ n' ≤ 200 ∧ Hid (t + stepsN i' n' = stepsN i n) ∧ t ≤ 200 - n') (fun _ b _ => (intOf b).toNat)
  case atStart => exact ⟨i, n, 0, rfl, rfl, rfl, by omega, by omega, by show 0 + _ = _; omega, by omega⟩
  case round =>
    obtain ⟨i', n', t, rfl, rfl, rfl, hlt, hn, HS, ht⟩ := hrel
    by_cases h2 : 2 ≤ n'
    · have hk := half_lt h2 (by omega)
      have hk0 := half_pos n'
      have hk2 := half_le h2 (by omega)
      by_cases hi : i' < half n'
      · have hs := stepsN_left h2 (by omega) hi
        have HE := Lib.hid hs
        clear hs
        go_wp2_with fail
        refine (Half_any _ _ (by omega) (by omega)).mono ?_
        rintro e w' ⟨rfl, rfl⟩
        rw [Int.toNat_natCast]
        go_wp2_with fail
        go_round
        case rel => exact ⟨i', half n', t + 1, rfl, rfl, by go_num, hi, by omega, by have := HS.out; have := HE.out; show _ = _; omega, by omega⟩
        case measure => simp [intOf]; omega
      · have hs := stepsN_right h2 (by omega) (by omega)
        have HE := Lib.hid hs
        clear hs
        go_wp2_with fail
        refine (Half_any _ _ (by omega) (by omega)).mono ?_
        rintro e w' ⟨rfl, rfl⟩
        rw [Int.toNat_natCast]
        go_wp2_with fail
        go_round
        case rel => exact ⟨i' - half n', n' - half n', t + 1, by go_num, by go_num, by go_num, by omega, by omega, by have := HS.out; have := HE.out; show _ = _; omega, by omega⟩
        case measure => simp [intOf]; omega
    · have h1 : n' = 1 := by omega
      have hz := stepsN_one i' h2
      subst h1
      have HE := Lib.hid hz
      clear hz h2
      go_wp2_with fail
      go_ret2
      exact ⟨ret_two (by have := HS.out; have := HE.out; show Value.int _ _ = Value.int _ _; congr 1; omega) rfl, by (repeat (with_reducible first | exact Ext.refl _ | assumption | refine Ext.drew ?_ | refine Ext.drewN ?_ _ | refine Ext.alloc ?_ _ | refine Ext.trans ?_ (by with_reducible assumption)))⟩
theorem Steps_bad (i n : Int) (w : World) (h : ¬ (0 ≤ i ∧ i < n ∧ n ≤ 200)) :
    Calls Tryd.prog 62 #[.int .i64 i, .int .i64 n] w fun e w' => e = .returned (.tuple #[.int .i64 0, errV 1]) ∧ Ext w w' := by
  have h' : i < 0 ∨ (0 ≤ i ∧ n ≤ i) ∨ (0 ≤ i ∧ i < n ∧ 200 < n) := by omega
  clear h
  rcases h' with h | ⟨h, h'⟩ | ⟨h, h', h''⟩
  all_goals
    go_enter Tryd.func62, Tryd.ntmps62
    go_wp2_with fail
    go_ret2
    exact ⟨rfl, by (repeat (with_reducible first | exact Ext.refl _ | assumption | refine Ext.drew ?_ | refine Ext.drewN ?_ _ | refine Ext.alloc ?_ _ | refine Ext.trans ?_ (by with_reducible assumption)))⟩

/-! ### proof.of -/
theorem info_int : (Tryd.prog.info? 3).map (fun i => (i.zero, i.size, i.bytes)) = some (some (.int .i64 0), 1, 8) := by kernel_rfl
/-- a result: a list of sums in new memory -/
def OwnI (w w' : World) (v : Value) (ys : List Int) : Prop := w'.ownsRow w.heap.size 3 1 v ys.length (ys.map (Value.int .i64))
theorem OwnI.ext {w w' w2 : World} {v : Value} {ys : List Int} (h : OwnI w w' v ys) (e : Ext w' w2) : OwnI w w2 v ys := own_ext h e
theorem OwnI.rd {w w' : World} {v : Value} {ys : List Int} (h : OwnI w w' v ys) : ∃ A c, v = .slice A ys.length c ∧ c ≤ maxLen ∧ Rd w' 1 A ys.length c (ys.map (Value.int .i64)) := by
  obtain ⟨A, c, h1, h2, h3, _⟩ := own_rd h
  exact ⟨A, c, h1, h2, h3⟩
theorem OwnI.mk {w w' : World} {v : Value} {n : Nat} {cs : List Value} {ys : List Int} (h : w'.ownsRow w.heap.size 3 1 v n cs) (hn : n = ys.length) (hc : cs = ys.map (Value.int .i64)) : OwnI w w' v ys := by
  subst hn; subst hc; exact h
theorem oneI (z : Int) : ∀ u ∈ [Value.int .i64 z], u.oneCell' = true := by intro u hu; simp at hu; subst hu; rfl

theorem last_of {ps : List Int} {k : Nat} (h : ps.length = k + 1) : ps[k]? = some (ps.getLastD 0) := by
  have hne : ps ≠ [] := by intro e; subst e; simp at h
  rw [List.getLastD_eq_getLast?, List.getLast?_eq_getElem?, h]
  simp
  rw [List.getElem?_eq_getElem (by omega)]
  rfl
theorem init_of {ps : List Int} {k : Nat} (h : ps.length = k + 1) : ps.take k = ps.dropLast := by
  rw [List.dropLast_eq_take, h]; rfl

set_option maxRecDepth 100000 in
set_option maxHeartbeats 2000000 in
theorem proot_any (N : Nat) : ∀ (i n : Int) (s : Int) (A : Option Addr) (m c : Nat) (ps : List Int) (w : World), n ≤ N → 1 ≤ n → n ≤ 4096 → 0 ≤ i → i < n → m = stepsN i.toNat n.toNat → Rd w 1 A m c (ps.map (Value.int .i64)) → c ≤ maxLen → vld s = true → allV ps = true →
    Calls Tryd.prog 64 #[.int .i64 i, .int .i64 n, .int .i64 s, .slice A m c] w fun e w' => e = .returned (.int .i64 (upL i.toNat n.toNat s ps)) ∧ Ext w w' := by
  induction N with
  | zero => intro i n s A m c ps w hN h1; omega
  | succ N ih =>
    intro i n s A m c ps w hN h1 hn hi0 hi hms hr hm hs hv
    obtain ⟨i, rfl⟩ := Int.eq_ofNat_of_zero_le hi0
    obtain ⟨n, rfl⟩ := Int.eq_ofNat_of_zero_le (show 0 ≤ n by omega)
    simp only [Int.toNat_natCast] at hms ⊢
    have hx := hr.lenI
    have IH := Lib.hid ih
    clear ih
    by_cases h2 : 2 ≤ n
    · have hk := half_lt h2 (by omega)
      have hk0 := half_pos n
      have hk' := half_le h2 (by omega)
      have hl : m ≤ c := hr.2.1
      by_cases hik : i < half n
      · obtain ⟨k, hmk⟩ : ∃ k, m = k + 1 := ⟨stepsN i (half n), by rw [hms, stepsN_left h2 (by omega) hik]⟩
        have hks : k = stepsN (i : Int).toNat (half n : Int).toNat := by rw [Int.toNat_natCast, Int.toNat_natCast]; rw [stepsN_left h2 (by omega) hik] at hms; omega
        have hlast := last_of (hx.trans hmk)
        have hvl := (vld_true (allV_get hv hlast)).1
        have hU := upL_left (s := s) (p := ps) h2 (by omega) hik
        rw [← init_of (hx.trans hmk)] at hU
        have HU := Lib.hid hU
        obtain ⟨ad, hA, hb, hcell⟩ := hr.getI hlast
        have R := hr.takeI (k := k) (by omega)
        have vu := (vld_true (vld_upL (i := i) (n := half n) (p := ps.take k) hs (by omega))).1
        have hvt := allV_take hv k
        generalize ps.getLastD 0 = z at *
        have HKS := Lib.hid hks
        have ht1 : Hid ((i : Int).toNat = i) := Int.toNat_natCast i
        have ht2 : Hid ((half n : Int).toNat = half n) := Int.toNat_natCast _
        subst hA
        clear hx hms hlast hks hU
        unfold maxLen at hm
        have q0 : (0 : Int) ≤ (k : Int) := by omega
        have q1 : (k : Int) ≤ (c : Int) := by omega
        have q2 : (k : Int) < (m : Int) := by omega
        have q9 : Hid ((m : Int) - 1 = (k : Int)) := by show _ = _; omega
        have q8 : (1 : Int) ≤ (m : Int) := by omega
        have q7 : (m : Int) ≤ (c : Int) := by omega
        clear hmk
        go_enter Tryd.func64, Tryd.ntmps64
        go_wp2_with fail
        refine (Half_any _ _ (by omega) (by omega)).mono ?_
        rintro e w' ⟨rfl, rfl⟩
        rw [Int.toNat_natCast]
        go_wp2_with fail
        rw [q9.out]
        go_region_held3 (fun W => W.cell? (ad.add k) = some (.int .i64 z)) (first | exact hcell | exact (Ext.cell (a := w) (by (repeat (with_reducible first | exact Ext.refl _ | assumption | refine Ext.drew ?_ | refine Ext.drewN ?_ _ | refine Ext.alloc ?_ _ | refine Ext.trans ?_ (by with_reducible assumption)))) (by rw [blk_add]; exact hb)).trans hcell) (first
          | (go_at_call 64; (with_reducible refine (IH.out (i : Int) (half n : Int) s (some ad) k c (ps.take k) _ (by omega) (by omega) (by omega) (by omega) (by omega) HKS.out (by exact R.ext (by (repeat (with_reducible first | exact Ext.refl _ | assumption | refine Ext.drew ?_ | refine Ext.drewN ?_ _ | refine Ext.alloc ?_ _ | refine Ext.trans ?_ (by with_reducible assumption))))) (by simp only [maxLen]; omega) hs hvt).mono ?_); rw [ht1.out, ht2.out]; rintro e w1 ⟨rfl, hb1⟩)
          | (go_at_call 67; refine (NodeOf_any _ _ _ vu hvl).mono ?_; rintro e w3 ⟨rfl, hb3⟩)
          | fail)
        go_wp2_with fail
        go_ret
        exact ⟨ret_int HU.out.symm, by (repeat (with_reducible first | exact Ext.refl _ | assumption | refine Ext.drew ?_ | refine Ext.drewN ?_ _ | refine Ext.alloc ?_ _ | refine Ext.trans ?_ (by with_reducible assumption)))⟩
      · obtain ⟨k, hmk⟩ : ∃ k, m = k + 1 := ⟨stepsN (i - half n) (n - half n), by rw [hms, stepsN_right h2 (by omega) hik]⟩
        have ht1' : ((i : Int) - (half n : Int)).toNat = i - half n := by omega
        have ht2' : ((n : Int) - (half n : Int)).toNat = n - half n := by omega
        have hks : k = stepsN ((i : Int) - (half n : Int)).toNat ((n : Int) - (half n : Int)).toNat := by rw [ht1', ht2']; rw [stepsN_right h2 (by omega) hik] at hms; omega
        have hlast := last_of (hx.trans hmk)
        have hvl := (vld_true (allV_get hv hlast)).1
        have hU := upL_right (s := s) (p := ps) h2 (by omega) hik
        rw [← init_of (hx.trans hmk)] at hU
        have HU := Lib.hid hU
        obtain ⟨ad, hA, hb, hcell⟩ := hr.getI hlast
        have R := hr.takeI (k := k) (by omega)
        have vu := (vld_true (vld_upL (i := i - half n) (n := n - half n) (p := ps.take k) hs (by omega))).1
        have hvt := allV_take hv k
        generalize ps.getLastD 0 = z at *
        have HKS := Lib.hid hks
        have HT1 := Lib.hid ht1'
        have HT2 := Lib.hid ht2'
        subst hA
        clear hx hms hlast hks hU ht1' ht2'
        unfold maxLen at hm
        have q0 : (0 : Int) ≤ (k : Int) := by omega
        have q1 : (k : Int) ≤ (c : Int) := by omega
        have q2 : (k : Int) < (m : Int) := by omega
        have q9 : Hid ((m : Int) - 1 = (k : Int)) := by show _ = _; omega
        have q8 : (1 : Int) ≤ (m : Int) := by omega
        have q7 : (m : Int) ≤ (c : Int) := by omega
        clear hmk
        have q3 : (half n : Int) ≤ (i : Int) := by omega
        have e1 : IntKind.i64.wrap ((i : Int) - (half n : Int)) = (i : Int) - (half n : Int) := IntWalk.i64_in _ (by omega)
        have e2 : IntKind.i64.wrap ((n : Int) - (half n : Int)) = (n : Int) - (half n : Int) := IntWalk.i64_in _ (by omega)
        go_enter Tryd.func64, Tryd.ntmps64
        go_wp2_with fail
        refine (Half_any _ _ (by omega) (by omega)).mono ?_
        rintro e w' ⟨rfl, rfl⟩
        rw [Int.toNat_natCast]
        go_wp2_with fail
        rw [q9.out]
        go_region_held3 (fun W => W.cell? (ad.add k) = some (.int .i64 z)) (first | exact hcell | exact (Ext.cell (a := w) (by (repeat (with_reducible first | exact Ext.refl _ | assumption | refine Ext.drew ?_ | refine Ext.drewN ?_ _ | refine Ext.alloc ?_ _ | refine Ext.trans ?_ (by with_reducible assumption)))) (by rw [blk_add]; exact hb)).trans hcell) (first
          | (go_at_call 64; (with_reducible refine (IH.out _ _ s (some ad) k c (ps.take k) _ (by omega) (by omega) (by omega) (by omega) (by omega) HKS.out (by exact R.ext (by (repeat (with_reducible first | exact Ext.refl _ | assumption | refine Ext.drew ?_ | refine Ext.drewN ?_ _ | refine Ext.alloc ?_ _ | refine Ext.trans ?_ (by with_reducible assumption))))) (by simp only [maxLen]; omega) hs hvt).mono ?_); rw [HT1.out, HT2.out]; rintro e w1 ⟨rfl, hb1⟩)
          | (go_at_call 67; refine (NodeOf_any _ _ _ hvl vu).mono ?_; rintro e w3 ⟨rfl, hb3⟩)
          | fail)
        go_wp2_with fail
        go_ret
        exact ⟨ret_int HU.out.symm, by (repeat (with_reducible first | exact Ext.refl _ | assumption | refine Ext.drew ?_ | refine Ext.drewN ?_ _ | refine Ext.alloc ?_ _ | refine Ext.trans ?_ (by with_reducible assumption)))⟩
    · obtain rfl : n = 1 := by omega
      have HU := Lib.hid (upL_one (i := i) (n := 1) (s := s) (p := ps) (by omega))
      clear hx hms
      go_enter Tryd.func64, Tryd.ntmps64
      go_wp2_with fail
      go_ret
      exact ⟨ret_int HU.out.symm, by (repeat (with_reducible first | exact Ext.refl _ | assumption | refine Ext.drew ?_ | refine Ext.drewN ?_ _ | refine Ext.alloc ?_ _ | refine Ext.trans ?_ (by with_reducible assumption)))⟩
end Go.Proofs.YtmknpehjncpekaaDoor
