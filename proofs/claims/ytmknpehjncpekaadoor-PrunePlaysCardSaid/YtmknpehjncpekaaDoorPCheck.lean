import Derived.Test.YtmknpehjncpekaaDoorProof
namespace Go.Proofs.YtmknpehjncpekaaDoor
open Go.RowKit Go.WideShapes
set_option linter.unusedVariables false

set_option maxRecDepth 100000 in
set_option maxHeartbeats 1000000 in
theorem PCheck_any (want n i s : Int) (A : Option Addr) (m c : Nat) (ps : List Int) (w : World) (hr : Rd w 1 A m c (ps.map (Value.int .i64))) (hm : c ≤ maxLen) :
    Calls Tryd.prog 37 #[.int .i64 want, .int .i64 n, .int .i64 i, .int .i64 s, .slice A m c] w fun e w' => e = .returned (errR (pcheck want n i s ps)) ∧ Ext w w' := by
  have hx := hr.lenI
  have HX := Lib.hid hx
  clear hx
  have hml : m ≤ c := hr.2.1
  by_cases ha : 0 ≤ i ∧ i < n ∧ n ≤ 200
  · have hlt : stepsN i.toNat n.toNat < n.toNat := stepsN_lt n.toNat _ _ (Nat.le_refl _) (by omega) (by omega)
    have HA := Lib.hid ha
    obtain ⟨a0, a1, a2⟩ := ha
    by_cases hb : vld want = true ∧ vld s = true ∧ allV ps = true
    · have HB := Lib.hid hb
      obtain ⟨b0, b1, b2⟩ := hb
      by_cases hc : m = stepsN i.toNat n.toNat
      · have hbc : ((m : Int) != ((stepsN i.toNat n.toNat : Nat) : Int)) = false := by rw [← hc]; simp
        have HC := Lib.hid hc
        clear hc
        by_cases hd : upL i.toNat n.toNat s ps = want
        · have HR : Hid (errR (pcheck want n i s ps) = .nilIface) := by show _ = _; rw [pcheck_ok HA.out HB.out (HX.out.trans HC.out) hd]; rfl
          have hd' : (upL i.toNat n.toNat s ps != want) = false := by rw [hd]; simp
          have HD := Lib.hid hd
          clear hd
          go_enter Tryd.func37, Tryd.ntmps37
          go_wp2_with fail
          refine (Steps_ok i n _ a0 a1 a2).mono ?_
          rintro e w1 ⟨rfl, hb1⟩
          go_wp2_with (first | (go_at_call 32; refine (Valid_any _ _).mono ?_; rintro e w' ⟨rfl, rfl⟩) | (go_at_call 63; refine (Sums_any A m c ps _ (by exact hr.ext (by (repeat (with_reducible first | exact Ext.refl _ | assumption | refine Ext.drew ?_ | refine Ext.drewN ?_ _ | refine Ext.alloc ?_ _ | refine Ext.trans ?_ (by with_reducible assumption))))) hm).mono ?_; rintro e w' ⟨rfl, rfl⟩))
          refine (proot_any n.toNat i n s A m c ps _ (by omega) (by omega) (by omega) a0 a1 HC.out (by exact hr.ext (by (repeat (with_reducible first | exact Ext.refl _ | assumption | refine Ext.drew ?_ | refine Ext.drewN ?_ _ | refine Ext.alloc ?_ _ | refine Ext.trans ?_ (by with_reducible assumption))))) hm b1 b2).mono ?_
          rintro e w3 ⟨rfl, hb3⟩
          go_wp2_with fail
          go_ret
          exact ⟨by rw [HR.out]; rfl, by (repeat (with_reducible first | exact Ext.refl _ | assumption | refine Ext.drew ?_ | refine Ext.drewN ?_ _ | refine Ext.alloc ?_ _ | refine Ext.trans ?_ (by with_reducible assumption)))⟩
        · have HR : Hid (errR (pcheck want n i s ps) = errV 8) := by show _ = _; rw [pcheck_root HA.out HB.out (HX.out.trans HC.out) hd]; rfl
          have hd' : (upL i.toNat n.toNat s ps != want) = true := by simpa using hd
          clear hd
          go_enter Tryd.func37, Tryd.ntmps37
          go_wp2_with fail
          refine (Steps_ok i n _ a0 a1 a2).mono ?_
          rintro e w1 ⟨rfl, hb1⟩
          go_wp2_with (first | (go_at_call 32; refine (Valid_any _ _).mono ?_; rintro e w' ⟨rfl, rfl⟩) | (go_at_call 63; refine (Sums_any A m c ps _ (by exact hr.ext (by (repeat (with_reducible first | exact Ext.refl _ | assumption | refine Ext.drew ?_ | refine Ext.drewN ?_ _ | refine Ext.alloc ?_ _ | refine Ext.trans ?_ (by with_reducible assumption))))) hm).mono ?_; rintro e w' ⟨rfl, rfl⟩))
          refine (proot_any n.toNat i n s A m c ps _ (by omega) (by omega) (by omega) a0 a1 HC.out (by exact hr.ext (by (repeat (with_reducible first | exact Ext.refl _ | assumption | refine Ext.drew ?_ | refine Ext.drewN ?_ _ | refine Ext.alloc ?_ _ | refine Ext.trans ?_ (by with_reducible assumption))))) hm b1 b2).mono ?_
          rintro e w3 ⟨rfl, hb3⟩
          go_wp2_with fail
          go_ret
          exact ⟨by rw [HR.out]; rfl, by (repeat (with_reducible first | exact Ext.refl _ | assumption | refine Ext.drew ?_ | refine Ext.drewN ?_ _ | refine Ext.alloc ?_ _ | refine Ext.trans ?_ (by with_reducible assumption)))⟩
      · have hbc : ((m : Int) != ((stepsN i.toNat n.toNat : Nat) : Int)) = true := by simp; omega
        have HR : Hid (errR (pcheck want n i s ps) = errV 3) := by show _ = _; rw [pcheck_len HA.out HB.out (by rw [HX.out]; exact hc)]; rfl
        clear hc
        go_enter Tryd.func37, Tryd.ntmps37
        go_wp2_with fail
        refine (Steps_ok i n _ a0 a1 a2).mono ?_
        rintro e w1 ⟨rfl, hb1⟩
        go_wp2_with (first | (go_at_call 32; refine (Valid_any _ _).mono ?_; rintro e w' ⟨rfl, rfl⟩) | (go_at_call 63; refine (Sums_any A m c ps _ (by exact hr.ext (by (repeat (with_reducible first | exact Ext.refl _ | assumption | refine Ext.drew ?_ | refine Ext.drewN ?_ _ | refine Ext.alloc ?_ _ | refine Ext.trans ?_ (by with_reducible assumption))))) hm).mono ?_; rintro e w' ⟨rfl, rfl⟩))
        go_ret
        exact ⟨by rw [HR.out]; rfl, by (repeat (with_reducible first | exact Ext.refl _ | assumption | refine Ext.drew ?_ | refine Ext.drewN ?_ _ | refine Ext.alloc ?_ _ | refine Ext.trans ?_ (by with_reducible assumption)))⟩
    · have HR : Hid (errR (pcheck want n i s ps) = errV 1) := by show _ = _; rw [pcheck_vld HA.out hb]; rfl
      have hb' : vld want = false ∨ (vld want = true ∧ vld s = false) ∨ (vld want = true ∧ vld s = true ∧ allV ps = false) := by
        cases x1 : vld want
        · exact .inl rfl
        cases x2 : vld s
        · exact .inr (.inl ⟨rfl, rfl⟩)
        cases x3 : allV ps
        · exact .inr (.inr ⟨rfl, rfl, rfl⟩)
        exact absurd ⟨x1, x2, x3⟩ hb
      clear hb
      rcases hb' with b0 | ⟨b0, b1⟩ | ⟨b0, b1, b2⟩
      all_goals
        go_enter Tryd.func37, Tryd.ntmps37
        go_wp2_with fail
        refine (Steps_ok i n _ a0 a1 a2).mono ?_
        rintro e w1 ⟨rfl, hb1⟩
        go_wp2_with (first | (go_at_call 32; refine (Valid_any _ _).mono ?_; rintro e w' ⟨rfl, rfl⟩) | (go_at_call 63; refine (Sums_any A m c ps _ (by exact hr.ext (by (repeat (with_reducible first | exact Ext.refl _ | assumption | refine Ext.drew ?_ | refine Ext.drewN ?_ _ | refine Ext.alloc ?_ _ | refine Ext.trans ?_ (by with_reducible assumption))))) hm).mono ?_; rintro e w' ⟨rfl, rfl⟩))
        go_ret
        exact ⟨by rw [HR.out]; rfl, by (repeat (with_reducible first | exact Ext.refl _ | assumption | refine Ext.drew ?_ | refine Ext.drewN ?_ _ | refine Ext.alloc ?_ _ | refine Ext.trans ?_ (by with_reducible assumption)))⟩
  · have HR : Hid (errR (pcheck want n i s ps) = errV 1) := by show _ = _; rw [pcheck_range ha]; rfl
    have HA := Lib.hid ha
    clear ha
    go_enter Tryd.func37, Tryd.ntmps37
    go_wp2_with fail
    refine (Steps_bad i n _ HA.out).mono ?_
    rintro e w1 ⟨rfl, hb1⟩
    simp only [errV]
    go_wp2_with fail
    go_ret
    exact ⟨by rw [HR.out]; rfl, by (repeat (with_reducible first | exact Ext.refl _ | assumption | refine Ext.drew ?_ | refine Ext.drewN ?_ _ | refine Ext.alloc ?_ _ | refine Ext.trans ?_ (by with_reducible assumption)))⟩
end Go.Proofs.YtmknpehjncpekaaDoor
